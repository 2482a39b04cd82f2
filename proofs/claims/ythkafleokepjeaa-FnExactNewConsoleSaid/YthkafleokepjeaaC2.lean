import Derived.Test.YthkafleokepjeaaC1
namespace Go.Proofs.Ythkafleokepjeaa
open Go.Proofs.Try

theorem mixed : prog.follows .mixedOrders = true := by kernel_rfl
theorem tabOK : TabOK prog tt := tab_ok (by kernel_rfl)

theorem e_lw_szIntS : ∀ x : D_lw_szIntS.T, ((acode E_lw_szIntS tt Z_lw_szIntS (orcOf O_lw_szIntS) C_lw_szIntS (entry A_lw_szIntS I_lw_szIntS x)).map (keepRet tt K_lw_szIntS)).ev = ((T_lw_szIntS x.1.1 x.1.2.1).map fun r => some ((((r, ()), ())) : K_lw_szIntS.T)).ev := fun _ => by kernel_rfl

theorem o_lw_szIntS : LoopsOK E_lw_szIntS tt Z_lw_szIntS O_lw_szIntS C_lw_szIntS := by
  have h : loopsOf C_lw_szIntS = [] := by kernel_rfl
  unfold LoopsOK
  rw [h]
  exact fun _ h => absurd h List.not_mem_nil

theorem ok_lw_szIntS : FnOK prog E_lw_szIntS tt 69 D_lw_szIntS K_lw_szIntS Z_lw_szIntS O_lw_szIntS f69 C_lw_szIntS (fun x => T_lw_szIntS x.1.1 x.1.2.1) (fun r => ((r, ()), ())) where
  at_ := func69
  name := by kernel_rfl
  body := by kernel_rfl
  res := by kernel_rfl
  ok := by kernel_rfl
  arity := fun _ => Nat.le_of_ble_eq_true (by kernel_rfl)
  pin := fun _ => by kernel_rfl
  chk := by kernel_rfl
  loops := o_lw_szIntS
  run := e_lw_szIntS
  F := fun _ => rfl
  emb := fun _ => rfl

theorem fd_lw_szIntS : FDok prog (69, D_lw_szIntS) := fn_ok mixed (env_ok (fun _ h => absurd h List.not_mem_nil)) tabOK ok_lw_szIntS

theorem e_lw_szIntSS : ∀ x : D_lw_szIntSS.T, ((acode E_lw_szIntSS tt Z_lw_szIntSS (orcOf O_lw_szIntSS) C_lw_szIntSS (entry A_lw_szIntSS I_lw_szIntSS x)).map (keepRet tt K_lw_szIntSS)).ev = ((T_lw_szIntSS x.1.1 x.1.2.1).map fun r => some ((((r, ()), ())) : K_lw_szIntSS.T)).ev := fun _ => by kernel_rfl

noncomputable def B_lw_szIntSS_0 : Code := ((loopsOf C_lw_szIntSS).find? fun p => Nat.beq p.1 0).elim .skip (·.2)
theorem l_lw_szIntSS_0 : (DL_lw_szIntSS_0).OK E_lw_szIntSS tt Z_lw_szIntSS (orcOf O_lw_szIntSS) B_lw_szIntSS_0 where
  ok := by kernel_rfl
  oke := by kernel_rfl
  okr := by kernel_rfl
  eta := fun _ => rfl
  step := fun _ _ => by kernel_rfl

theorem o_lw_szIntSS : LoopsOK E_lw_szIntSS tt Z_lw_szIntSS O_lw_szIntSS C_lw_szIntSS := by
  have h : loopsOf C_lw_szIntSS = [(0, B_lw_szIntSS_0)] := by kernel_rfl
  unfold LoopsOK
  rw [h]
  exact List.forall_mem_cons.2 ⟨fun d h => (by have e : some (DL_lw_szIntSS_0) = some d := h; cases e; exact l_lw_szIntSS_0), fun _ h => absurd h List.not_mem_nil⟩

theorem ok_lw_szIntSS : FnOK prog E_lw_szIntSS tt 15 D_lw_szIntSS K_lw_szIntSS Z_lw_szIntSS O_lw_szIntSS f15 C_lw_szIntSS (fun x => T_lw_szIntSS x.1.1 x.1.2.1) (fun r => ((r, ()), ())) where
  at_ := func15
  name := by kernel_rfl
  body := by kernel_rfl
  res := by kernel_rfl
  ok := by kernel_rfl
  arity := fun _ => Nat.le_of_ble_eq_true (by kernel_rfl)
  pin := fun _ => by kernel_rfl
  chk := by kernel_rfl
  loops := o_lw_szIntSS
  run := e_lw_szIntSS
  F := fun _ => rfl
  emb := fun _ => rfl

theorem fd_lw_szIntSS : FDok prog (15, D_lw_szIntSS) := fn_ok mixed (env_ok (List.forall_mem_cons.2 ⟨fd_lw_szIntS, fun _ h => absurd h List.not_mem_nil⟩)) tabOK ok_lw_szIntSS

theorem e_lw_toIntS : ∀ x : D_lw_toIntS.T, ((acode E_lw_toIntS tt Z_lw_toIntS (orcOf O_lw_toIntS) C_lw_toIntS (entry A_lw_toIntS I_lw_toIntS x)).map (keepRet tt K_lw_toIntS)).ev = ((T_lw_toIntS x.1.1).map fun r => some (((((), ()), (r, ()))) : K_lw_toIntS.T)).ev := fun _ => by kernel_rfl

noncomputable def B_lw_toIntS_0 : Code := ((loopsOf C_lw_toIntS).find? fun p => Nat.beq p.1 0).elim .skip (·.2)
theorem l_lw_toIntS_0 : (DL_lw_toIntS_0).OK E_lw_toIntS tt Z_lw_toIntS (orcOf O_lw_toIntS) B_lw_toIntS_0 where
  ok := by kernel_rfl
  oke := by kernel_rfl
  okr := by kernel_rfl
  eta := fun _ => rfl
  step := fun _ _ => by kernel_rfl

theorem o_lw_toIntS : LoopsOK E_lw_toIntS tt Z_lw_toIntS O_lw_toIntS C_lw_toIntS := by
  have h : loopsOf C_lw_toIntS = [(0, B_lw_toIntS_0)] := by kernel_rfl
  unfold LoopsOK
  rw [h]
  exact List.forall_mem_cons.2 ⟨fun d h => (by have e : some (DL_lw_toIntS_0) = some d := h; cases e; exact l_lw_toIntS_0), fun _ h => absurd h List.not_mem_nil⟩

theorem ok_lw_toIntS : FnOK prog E_lw_toIntS tt 36 D_lw_toIntS K_lw_toIntS Z_lw_toIntS O_lw_toIntS f36 C_lw_toIntS (fun x => T_lw_toIntS x.1.1) (fun r => (((), ()), (r, ()))) where
  at_ := func36
  name := by kernel_rfl
  body := by kernel_rfl
  res := by kernel_rfl
  ok := by kernel_rfl
  arity := fun _ => Nat.le_of_ble_eq_true (by kernel_rfl)
  pin := fun _ => by kernel_rfl
  chk := by kernel_rfl
  loops := o_lw_toIntS
  run := e_lw_toIntS
  F := fun _ => rfl
  emb := fun _ => rfl

theorem fd_lw_toIntS : FDok prog (36, D_lw_toIntS) := fn_ok mixed (env_ok (fun _ h => absurd h List.not_mem_nil)) tabOK ok_lw_toIntS

theorem e_lw_toIntSS : ∀ x : D_lw_toIntSS.T, ((acode E_lw_toIntSS tt Z_lw_toIntSS (orcOf O_lw_toIntSS) C_lw_toIntSS (entry A_lw_toIntSS I_lw_toIntSS x)).map (keepRet tt K_lw_toIntSS)).ev = ((T_lw_toIntSS x.1.1).map fun r => some (((((), ()), (r, ()))) : K_lw_toIntSS.T)).ev := fun _ => by kernel_rfl

noncomputable def B_lw_toIntSS_0 : Code := ((loopsOf C_lw_toIntSS).find? fun p => Nat.beq p.1 0).elim .skip (·.2)
theorem l_lw_toIntSS_0 : (DL_lw_toIntSS_0).OK E_lw_toIntSS tt Z_lw_toIntSS (orcOf O_lw_toIntSS) B_lw_toIntSS_0 where
  ok := by kernel_rfl
  oke := by kernel_rfl
  okr := by kernel_rfl
  eta := fun _ => rfl
  step := fun _ _ => by kernel_rfl

theorem o_lw_toIntSS : LoopsOK E_lw_toIntSS tt Z_lw_toIntSS O_lw_toIntSS C_lw_toIntSS := by
  have h : loopsOf C_lw_toIntSS = [(0, B_lw_toIntSS_0)] := by kernel_rfl
  unfold LoopsOK
  rw [h]
  exact List.forall_mem_cons.2 ⟨fun d h => (by have e : some (DL_lw_toIntSS_0) = some d := h; cases e; exact l_lw_toIntSS_0), fun _ h => absurd h List.not_mem_nil⟩

theorem ok_lw_toIntSS : FnOK prog E_lw_toIntSS tt 17 D_lw_toIntSS K_lw_toIntSS Z_lw_toIntSS O_lw_toIntSS f17 C_lw_toIntSS (fun x => T_lw_toIntSS x.1.1) (fun r => (((), ()), (r, ()))) where
  at_ := func17
  name := by kernel_rfl
  body := by kernel_rfl
  res := by kernel_rfl
  ok := by kernel_rfl
  arity := fun _ => Nat.le_of_ble_eq_true (by kernel_rfl)
  pin := fun _ => by kernel_rfl
  chk := by kernel_rfl
  loops := o_lw_toIntSS
  run := e_lw_toIntSS
  F := fun _ => rfl
  emb := fun _ => rfl

theorem fd_lw_toIntSS : FDok prog (17, D_lw_toIntSS) := fn_ok mixed (env_ok (List.forall_mem_cons.2 ⟨fd_lw_toIntS, fun _ h => absurd h List.not_mem_nil⟩)) tabOK ok_lw_toIntSS

theorem e_sp_l1In : ∀ x : D_sp_l1In.T, ((acode E_sp_l1In tt Z_sp_l1In (orcOf O_sp_l1In) C_sp_l1In (entry A_sp_l1In I_sp_l1In x)).map (keepRet tt K_sp_l1In)).ev = ((T_sp_l1In x.1.1 x.1.2.1 x.1.2.2.1).map fun r => some ((((r, ()), ())) : K_sp_l1In.T)).ev := fun _ => by kernel_rfl

theorem o_sp_l1In : LoopsOK E_sp_l1In tt Z_sp_l1In O_sp_l1In C_sp_l1In := by
  have h : loopsOf C_sp_l1In = [] := by kernel_rfl
  unfold LoopsOK
  rw [h]
  exact fun _ h => absurd h List.not_mem_nil

theorem ok_sp_l1In : FnOK prog E_sp_l1In tt 93 D_sp_l1In K_sp_l1In Z_sp_l1In O_sp_l1In f93 C_sp_l1In (fun x => T_sp_l1In x.1.1 x.1.2.1 x.1.2.2.1) (fun r => ((r, ()), ())) where
  at_ := func93
  name := by kernel_rfl
  body := by kernel_rfl
  res := by kernel_rfl
  ok := by kernel_rfl
  arity := fun _ => Nat.le_of_ble_eq_true (by kernel_rfl)
  pin := fun _ => by kernel_rfl
  chk := by kernel_rfl
  loops := o_sp_l1In
  run := e_sp_l1In
  F := fun _ => rfl
  emb := fun _ => rfl

theorem fd_sp_l1In : FDok prog (93, D_sp_l1In) := fn_ok mixed (env_ok (fun _ h => absurd h List.not_mem_nil)) tabOK ok_sp_l1In

theorem e_sp_l2Row : ∀ x : D_sp_l2Row.T, ((acode E_sp_l2Row tt Z_sp_l2Row (orcOf O_sp_l2Row) C_sp_l2Row (entry A_sp_l2Row I_sp_l2Row x)).map (keepRet tt K_sp_l2Row)).ev = ((T_sp_l2Row x.1.1 x.1.2.1 x.1.2.2.1).map fun r => some ((((r, ()), ())) : K_sp_l2Row.T)).ev := fun _ => by kernel_rfl

noncomputable def B_sp_l2Row_0 : Code := ((loopsOf C_sp_l2Row).find? fun p => Nat.beq p.1 0).elim .skip (·.2)
theorem l_sp_l2Row_0 : (DL_sp_l2Row_0).OK E_sp_l2Row tt Z_sp_l2Row (orcOf O_sp_l2Row) B_sp_l2Row_0 where
  ok := by kernel_rfl
  oke := by kernel_rfl
  okr := by kernel_rfl
  eta := fun _ => rfl
  step := fun _ _ => by kernel_rfl

theorem o_sp_l2Row : LoopsOK E_sp_l2Row tt Z_sp_l2Row O_sp_l2Row C_sp_l2Row := by
  have h : loopsOf C_sp_l2Row = [(0, B_sp_l2Row_0)] := by kernel_rfl
  unfold LoopsOK
  rw [h]
  exact List.forall_mem_cons.2 ⟨fun d h => (by have e : some (DL_sp_l2Row_0) = some d := h; cases e; exact l_sp_l2Row_0), fun _ h => absurd h List.not_mem_nil⟩

theorem ok_sp_l2Row : FnOK prog E_sp_l2Row tt 118 D_sp_l2Row K_sp_l2Row Z_sp_l2Row O_sp_l2Row f118 C_sp_l2Row (fun x => T_sp_l2Row x.1.1 x.1.2.1 x.1.2.2.1) (fun r => ((r, ()), ())) where
  at_ := func118
  name := by kernel_rfl
  body := by kernel_rfl
  res := by kernel_rfl
  ok := by kernel_rfl
  arity := fun _ => Nat.le_of_ble_eq_true (by kernel_rfl)
  pin := fun _ => by kernel_rfl
  chk := by kernel_rfl
  loops := o_sp_l2Row
  run := e_sp_l2Row
  F := fun _ => rfl
  emb := fun _ => rfl

theorem fd_sp_l2Row : FDok prog (118, D_sp_l2Row) := fn_ok mixed (env_ok (List.forall_mem_cons.2 ⟨fd_sp_l1In, fun _ h => absurd h List.not_mem_nil⟩)) tabOK ok_sp_l2Row

theorem e_sp_l11Ground : ∀ x : D_sp_l11Ground.T, ((acode E_sp_l11Ground tt Z_sp_l11Ground (orcOf O_sp_l11Ground) C_sp_l11Ground (entry A_sp_l11Ground I_sp_l11Ground x)).map (keepRet tt K_sp_l11Ground)).ev = ((T_sp_l11Ground x.1.1).map fun r => some ((((r, ()), ())) : K_sp_l11Ground.T)).ev := fun _ => by kernel_rfl

noncomputable def B_sp_l11Ground_2 : Code := ((loopsOf C_sp_l11Ground).find? fun p => Nat.beq p.1 2).elim .skip (·.2)
theorem l_sp_l11Ground_2 : (DL_sp_l11Ground_2).OK E_sp_l11Ground tt Z_sp_l11Ground (orcOf O_sp_l11Ground) B_sp_l11Ground_2 where
  ok := by kernel_rfl
  oke := by kernel_rfl
  okr := by kernel_rfl
  eta := fun _ => rfl
  step := fun _ _ => by kernel_rfl

noncomputable def B_sp_l11Ground_0 : Code := ((loopsOf C_sp_l11Ground).find? fun p => Nat.beq p.1 0).elim .skip (·.2)
theorem l_sp_l11Ground_0 : (DL_sp_l11Ground_0).OK E_sp_l11Ground tt Z_sp_l11Ground (orcOf O_sp_l11Ground) B_sp_l11Ground_0 where
  ok := by kernel_rfl
  oke := by kernel_rfl
  okr := by kernel_rfl
  eta := fun _ => rfl
  step := fun _ _ => by kernel_rfl

theorem o_sp_l11Ground : LoopsOK E_sp_l11Ground tt Z_sp_l11Ground O_sp_l11Ground C_sp_l11Ground := by
  have h : loopsOf C_sp_l11Ground = [(0, B_sp_l11Ground_0), (2, B_sp_l11Ground_2)] := by kernel_rfl
  unfold LoopsOK
  rw [h]
  exact List.forall_mem_cons.2 ⟨fun d h => (by have e : some (DL_sp_l11Ground_0) = some d := h; cases e; exact l_sp_l11Ground_0), List.forall_mem_cons.2 ⟨fun d h => (by have e : some (DL_sp_l11Ground_2) = some d := h; cases e; exact l_sp_l11Ground_2), fun _ h => absurd h List.not_mem_nil⟩⟩

theorem ok_sp_l11Ground : FnOK prog E_sp_l11Ground tt 70 D_sp_l11Ground K_sp_l11Ground Z_sp_l11Ground O_sp_l11Ground f70 C_sp_l11Ground (fun x => T_sp_l11Ground x.1.1) (fun r => ((r, ()), ())) where
  at_ := func70
  name := by kernel_rfl
  body := by kernel_rfl
  res := by kernel_rfl
  ok := by kernel_rfl
  arity := fun _ => Nat.le_of_ble_eq_true (by kernel_rfl)
  pin := fun _ => by kernel_rfl
  chk := by kernel_rfl
  loops := o_sp_l11Ground
  run := e_sp_l11Ground
  F := fun _ => rfl
  emb := fun _ => rfl

theorem fd_sp_l11Ground : FDok prog (70, D_sp_l11Ground) := fn_ok mixed (env_ok (List.forall_mem_cons.2 ⟨fd_sp_l2Row, fun _ h => absurd h List.not_mem_nil⟩)) tabOK ok_sp_l11Ground

theorem e_sp_l11Number : ∀ x : D_sp_l11Number.T, ((acode E_sp_l11Number tt Z_sp_l11Number (orcOf O_sp_l11Number) C_sp_l11Number (entry A_sp_l11Number I_sp_l11Number x)).map (keepRet tt K_sp_l11Number)).ev = ((T_sp_l11Number x.1.1).map fun r => some ((((r, ()), ())) : K_sp_l11Number.T)).ev := fun _ => by kernel_rfl

theorem o_sp_l11Number : LoopsOK E_sp_l11Number tt Z_sp_l11Number O_sp_l11Number C_sp_l11Number := by
  have h : loopsOf C_sp_l11Number = [] := by kernel_rfl
  unfold LoopsOK
  rw [h]
  exact fun _ h => absurd h List.not_mem_nil

theorem ok_sp_l11Number : FnOK prog E_sp_l11Number tt 71 D_sp_l11Number K_sp_l11Number Z_sp_l11Number O_sp_l11Number f71 C_sp_l11Number (fun x => T_sp_l11Number x.1.1) (fun r => ((r, ()), ())) where
  at_ := func71
  name := by kernel_rfl
  body := by kernel_rfl
  res := by kernel_rfl
  ok := by kernel_rfl
  arity := fun _ => Nat.le_of_ble_eq_true (by kernel_rfl)
  pin := fun _ => by kernel_rfl
  chk := by kernel_rfl
  loops := o_sp_l11Number
  run := e_sp_l11Number
  F := fun _ => rfl
  emb := fun _ => rfl

theorem fd_sp_l11Number : FDok prog (71, D_sp_l11Number) := fn_ok mixed (env_ok (List.forall_mem_cons.2 ⟨fd_sp_l1In, fun _ h => absurd h List.not_mem_nil⟩)) tabOK ok_sp_l11Number

theorem e_sp_NearGroups : ∀ x : D_sp_NearGroups.T, ((acode E_sp_NearGroups tt Z_sp_NearGroups (orcOf O_sp_NearGroups) C_sp_NearGroups (entry A_sp_NearGroups I_sp_NearGroups x)).map (keepRet tt K_sp_NearGroups)).ev = ((T_sp_NearGroups x.1.1 x.1.2.1).map fun r => some (((((), (r.1, ())), (r.2, ()))) : K_sp_NearGroups.T)).ev := fun _ => by kernel_rfl

noncomputable def B_sp_NearGroups_4 : Code := ((loopsOf C_sp_NearGroups).find? fun p => Nat.beq p.1 4).elim .skip (·.2)
theorem l_sp_NearGroups_4 : (DL_sp_NearGroups_4).OK E_sp_NearGroups tt Z_sp_NearGroups (orcOf O_sp_NearGroups) B_sp_NearGroups_4 where
  ok := by kernel_rfl
  oke := by kernel_rfl
  okr := by kernel_rfl
  eta := fun _ => rfl
  step := fun _ _ => by kernel_rfl

noncomputable def B_sp_NearGroups_2 : Code := ((loopsOf C_sp_NearGroups).find? fun p => Nat.beq p.1 2).elim .skip (·.2)
theorem l_sp_NearGroups_2 : (DL_sp_NearGroups_2).OK E_sp_NearGroups tt Z_sp_NearGroups (orcOf O_sp_NearGroups) B_sp_NearGroups_2 where
  ok := by kernel_rfl
  oke := by kernel_rfl
  okr := by kernel_rfl
  eta := fun _ => rfl
  step := fun _ _ => by kernel_rfl

noncomputable def B_sp_NearGroups_0 : Code := ((loopsOf C_sp_NearGroups).find? fun p => Nat.beq p.1 0).elim .skip (·.2)
theorem l_sp_NearGroups_0 : (DL_sp_NearGroups_0).OK E_sp_NearGroups tt Z_sp_NearGroups (orcOf O_sp_NearGroups) B_sp_NearGroups_0 where
  ok := by kernel_rfl
  oke := by kernel_rfl
  okr := by kernel_rfl
  eta := fun _ => rfl
  step := fun _ _ => by kernel_rfl

theorem o_sp_NearGroups : LoopsOK E_sp_NearGroups tt Z_sp_NearGroups O_sp_NearGroups C_sp_NearGroups := by
  have h : loopsOf C_sp_NearGroups = [(0, B_sp_NearGroups_0), (2, B_sp_NearGroups_2), (4, B_sp_NearGroups_4)] := by kernel_rfl
  unfold LoopsOK
  rw [h]
  exact List.forall_mem_cons.2 ⟨fun d h => (by have e : some (DL_sp_NearGroups_0) = some d := h; cases e; exact l_sp_NearGroups_0), List.forall_mem_cons.2 ⟨fun d h => (by have e : some (DL_sp_NearGroups_2) = some d := h; cases e; exact l_sp_NearGroups_2), List.forall_mem_cons.2 ⟨fun d h => (by have e : some (DL_sp_NearGroups_4) = some d := h; cases e; exact l_sp_NearGroups_4), fun _ h => absurd h List.not_mem_nil⟩⟩⟩

theorem ok_sp_NearGroups : FnOK prog E_sp_NearGroups tt 16 D_sp_NearGroups K_sp_NearGroups Z_sp_NearGroups O_sp_NearGroups f16 C_sp_NearGroups (fun x => T_sp_NearGroups x.1.1 x.1.2.1) (fun r => (((), (r.1, ())), (r.2, ()))) where
  at_ := func16
  name := by kernel_rfl
  body := by kernel_rfl
  res := by kernel_rfl
  ok := by kernel_rfl
  arity := fun _ => Nat.le_of_ble_eq_true (by kernel_rfl)
  pin := fun _ => by kernel_rfl
  chk := by kernel_rfl
  loops := o_sp_NearGroups
  run := e_sp_NearGroups
  F := fun _ => rfl
  emb := fun _ => rfl

theorem fd_sp_NearGroups : FDok prog (16, D_sp_NearGroups) := fn_ok mixed (env_ok (List.forall_mem_cons.2 ⟨fd_sp_l11Ground, List.forall_mem_cons.2 ⟨fd_sp_l11Number, fun _ h => absurd h List.not_mem_nil⟩⟩)) tabOK ok_sp_NearGroups

theorem e_slices_IndexFunc_Sint_int : ∀ x : D_slices_IndexFunc_Sint_int.T, ((acode E_slices_IndexFunc_Sint_int tt Z_slices_IndexFunc_Sint_int (orcOf O_slices_IndexFunc_Sint_int) C_slices_IndexFunc_Sint_int (entry A_slices_IndexFunc_Sint_int I_slices_IndexFunc_Sint_int x)).map (keepRet tt K_slices_IndexFunc_Sint_int)).ev = ((T_slices_IndexFunc_Sint_int x.1.1 x.1.2.1).map fun r => some ((((r, ()), ())) : K_slices_IndexFunc_Sint_int.T)).ev := fun _ => by kernel_rfl

noncomputable def B_slices_IndexFunc_Sint_int_0 : Code := ((loopsOf C_slices_IndexFunc_Sint_int).find? fun p => Nat.beq p.1 0).elim .skip (·.2)
theorem l_slices_IndexFunc_Sint_int_0 : (DL_slices_IndexFunc_Sint_int_0).OK E_slices_IndexFunc_Sint_int tt Z_slices_IndexFunc_Sint_int (orcOf O_slices_IndexFunc_Sint_int) B_slices_IndexFunc_Sint_int_0 where
  ok := by kernel_rfl
  oke := by kernel_rfl
  okr := by kernel_rfl
  eta := fun _ => rfl
  step := fun _ _ => by kernel_rfl

theorem o_slices_IndexFunc_Sint_int : LoopsOK E_slices_IndexFunc_Sint_int tt Z_slices_IndexFunc_Sint_int O_slices_IndexFunc_Sint_int C_slices_IndexFunc_Sint_int := by
  have h : loopsOf C_slices_IndexFunc_Sint_int = [(0, B_slices_IndexFunc_Sint_int_0)] := by kernel_rfl
  unfold LoopsOK
  rw [h]
  exact List.forall_mem_cons.2 ⟨fun d h => (by have e : some (DL_slices_IndexFunc_Sint_int_0) = some d := h; cases e; exact l_slices_IndexFunc_Sint_int_0), fun _ h => absurd h List.not_mem_nil⟩

theorem ok_slices_IndexFunc_Sint_int : FnOK prog E_slices_IndexFunc_Sint_int tt 170 D_slices_IndexFunc_Sint_int K_slices_IndexFunc_Sint_int Z_slices_IndexFunc_Sint_int O_slices_IndexFunc_Sint_int f170 C_slices_IndexFunc_Sint_int (fun x => T_slices_IndexFunc_Sint_int x.1.1 x.1.2.1) (fun r => ((r, ()), ())) where
  at_ := func170
  name := by kernel_rfl
  body := by kernel_rfl
  res := by kernel_rfl
  ok := by kernel_rfl
  arity := fun _ => Nat.le_of_ble_eq_true (by kernel_rfl)
  pin := fun _ => by kernel_rfl
  chk := by kernel_rfl
  loops := o_slices_IndexFunc_Sint_int
  run := e_slices_IndexFunc_Sint_int
  F := fun _ => rfl
  emb := fun _ => rfl

theorem fd_slices_IndexFunc_Sint_int : FDok prog (170, D_slices_IndexFunc_Sint_int) := fn_ok mixed (env_ok (fun _ h => absurd h List.not_mem_nil)) tabOK ok_slices_IndexFunc_Sint_int

theorem e_slices_ContainsFunc_Sint_int : ∀ x : D_slices_ContainsFunc_Sint_int.T, ((acode E_slices_ContainsFunc_Sint_int tt Z_slices_ContainsFunc_Sint_int (orcOf O_slices_ContainsFunc_Sint_int) C_slices_ContainsFunc_Sint_int (entry A_slices_ContainsFunc_Sint_int I_slices_ContainsFunc_Sint_int x)).map (keepRet tt K_slices_ContainsFunc_Sint_int)).ev = ((T_slices_ContainsFunc_Sint_int x.1.1 x.1.2.1).map fun r => some ((((r, ()), ())) : K_slices_ContainsFunc_Sint_int.T)).ev := fun _ => by kernel_rfl

theorem o_slices_ContainsFunc_Sint_int : LoopsOK E_slices_ContainsFunc_Sint_int tt Z_slices_ContainsFunc_Sint_int O_slices_ContainsFunc_Sint_int C_slices_ContainsFunc_Sint_int := by
  have h : loopsOf C_slices_ContainsFunc_Sint_int = [] := by kernel_rfl
  unfold LoopsOK
  rw [h]
  exact fun _ h => absurd h List.not_mem_nil

theorem ok_slices_ContainsFunc_Sint_int : FnOK prog E_slices_ContainsFunc_Sint_int tt 125 D_slices_ContainsFunc_Sint_int K_slices_ContainsFunc_Sint_int Z_slices_ContainsFunc_Sint_int O_slices_ContainsFunc_Sint_int f125 C_slices_ContainsFunc_Sint_int (fun x => T_slices_ContainsFunc_Sint_int x.1.1 x.1.2.1) (fun r => ((r, ()), ())) where
  at_ := func125
  name := by kernel_rfl
  body := by kernel_rfl
  res := by kernel_rfl
  ok := by kernel_rfl
  arity := fun _ => Nat.le_of_ble_eq_true (by kernel_rfl)
  pin := fun _ => by kernel_rfl
  chk := by kernel_rfl
  loops := o_slices_ContainsFunc_Sint_int
  run := e_slices_ContainsFunc_Sint_int
  F := fun _ => rfl
  emb := fun _ => rfl

theorem fd_slices_ContainsFunc_Sint_int : FDok prog (125, D_slices_ContainsFunc_Sint_int) := fn_ok mixed (env_ok (List.forall_mem_cons.2 ⟨fd_slices_IndexFunc_Sint_int, fun _ h => absurd h List.not_mem_nil⟩)) tabOK ok_slices_ContainsFunc_Sint_int

theorem e_im_between : ∀ x : D_im_between.T, ((acode E_im_between tt Z_im_between (orcOf O_im_between) C_im_between (entry A_im_between I_im_between x)).map (keepRet tt K_im_between)).ev = ((T_im_between x.1.1 x.1.2.1 x.1.2.2.1).map fun r => some ((((r, ()), ())) : K_im_between.T)).ev := fun _ => by kernel_rfl

theorem o_im_between : LoopsOK E_im_between tt Z_im_between O_im_between C_im_between := by
  have h : loopsOf C_im_between = [] := by kernel_rfl
  unfold LoopsOK
  rw [h]
  exact fun _ h => absurd h List.not_mem_nil

theorem ok_im_between : FnOK prog E_im_between tt 73 D_im_between K_im_between Z_im_between O_im_between f73 C_im_between (fun x => T_im_between x.1.1 x.1.2.1 x.1.2.2.1) (fun r => ((r, ()), ())) where
  at_ := func73
  name := by kernel_rfl
  body := by kernel_rfl
  res := by kernel_rfl
  ok := by kernel_rfl
  arity := fun _ => Nat.le_of_ble_eq_true (by kernel_rfl)
  pin := fun _ => by kernel_rfl
  chk := by kernel_rfl
  loops := o_im_between
  run := e_im_between
  F := fun _ => rfl
  emb := fun _ => rfl

theorem fd_im_between : FDok prog (73, D_im_between) := fn_ok mixed (env_ok (fun _ h => absurd h List.not_mem_nil)) tabOK ok_im_between

theorem e_im_areBetween_1 : ∀ x : D_im_areBetween_1.T, ((acode E_im_areBetween_1 tt Z_im_areBetween_1 (orcOf O_im_areBetween_1) C_im_areBetween_1 (entry A_im_areBetween_1 I_im_areBetween_1 x)).map (keepRet tt K_im_areBetween_1)).ev = ((T_im_areBetween_1 x.1.1 x.1.2.1.1 x.1.2.2.1.1).map fun r => some ((((r, ()), ())) : K_im_areBetween_1.T)).ev := fun _ => by kernel_rfl

theorem o_im_areBetween_1 : LoopsOK E_im_areBetween_1 tt Z_im_areBetween_1 O_im_areBetween_1 C_im_areBetween_1 := by
  have h : loopsOf C_im_areBetween_1 = [] := by kernel_rfl
  unfold LoopsOK
  rw [h]
  exact fun _ h => absurd h List.not_mem_nil

theorem ok_im_areBetween_1 : FnOK prog E_im_areBetween_1 tt 177 D_im_areBetween_1 K_im_areBetween_1 Z_im_areBetween_1 O_im_areBetween_1 f177 C_im_areBetween_1 (fun x => T_im_areBetween_1 x.1.1 x.1.2.1.1 x.1.2.2.1.1) (fun r => ((r, ()), ())) where
  at_ := func177
  name := by kernel_rfl
  body := by kernel_rfl
  res := by kernel_rfl
  ok := by kernel_rfl
  arity := fun _ => Nat.le_of_ble_eq_true (by kernel_rfl)
  pin := fun _ => by kernel_rfl
  chk := by kernel_rfl
  loops := o_im_areBetween_1
  run := e_im_areBetween_1
  F := fun _ => rfl
  emb := fun _ => rfl

theorem fd_im_areBetween_1 : FDok prog (177, D_im_areBetween_1) := fn_ok mixed (env_ok (List.forall_mem_cons.2 ⟨fd_im_between, fun _ h => absurd h List.not_mem_nil⟩)) tabOK ok_im_areBetween_1

theorem e_im_areBetween : ∀ x : D_im_areBetween.T, ((acode E_im_areBetween tt Z_im_areBetween (orcOf O_im_areBetween) C_im_areBetween (entry A_im_areBetween I_im_areBetween x)).map (keepRet tt K_im_areBetween)).ev = ((T_im_areBetween x.1.1 x.1.2.1 x.1.2.2.1).map fun r => some ((((r, ()), ())) : K_im_areBetween.T)).ev := fun _ => by kernel_rfl

theorem o_im_areBetween : LoopsOK E_im_areBetween tt Z_im_areBetween O_im_areBetween C_im_areBetween := by
  have h : loopsOf C_im_areBetween = [] := by kernel_rfl
  unfold LoopsOK
  rw [h]
  exact fun _ h => absurd h List.not_mem_nil

theorem ok_im_areBetween : FnOK prog E_im_areBetween tt 136 D_im_areBetween K_im_areBetween Z_im_areBetween O_im_areBetween f136 C_im_areBetween (fun x => T_im_areBetween x.1.1 x.1.2.1 x.1.2.2.1) (fun r => ((r, ()), ())) where
  at_ := func136
  name := by kernel_rfl
  body := by kernel_rfl
  res := by kernel_rfl
  ok := by kernel_rfl
  arity := fun _ => Nat.le_of_ble_eq_true (by kernel_rfl)
  pin := fun _ => by kernel_rfl
  chk := by kernel_rfl
  loops := o_im_areBetween
  run := e_im_areBetween
  F := fun _ => rfl
  emb := fun _ => rfl

theorem fd_im_areBetween : FDok prog (136, D_im_areBetween) := fn_ok mixed (env_ok (List.forall_mem_cons.2 ⟨fd_slices_ContainsFunc_Sint_int, List.forall_mem_cons.2 ⟨fd_im_areBetween_1, fun _ h => absurd h List.not_mem_nil⟩⟩)) tabOK ok_im_areBetween

theorem e_im_IsGround : ∀ x : D_im_IsGround.T, ((acode E_im_IsGround tt Z_im_IsGround (orcOf O_im_IsGround) C_im_IsGround (entry A_im_IsGround I_im_IsGround x)).map (keepRet tt K_im_IsGround)).ev = ((T_im_IsGround x.1.1).map fun r => some ((((r, ()), ())) : K_im_IsGround.T)).ev := fun _ => by kernel_rfl

noncomputable def B_im_IsGround_0 : Code := ((loopsOf C_im_IsGround).find? fun p => Nat.beq p.1 0).elim .skip (·.2)
theorem l_im_IsGround_0 : (DL_im_IsGround_0).OK E_im_IsGround tt Z_im_IsGround (orcOf O_im_IsGround) B_im_IsGround_0 where
  ok := by kernel_rfl
  oke := by kernel_rfl
  okr := by kernel_rfl
  eta := fun _ => rfl
  step := fun _ _ => by kernel_rfl

noncomputable def B_im_IsGround_4 : Code := ((loopsOf C_im_IsGround).find? fun p => Nat.beq p.1 4).elim .skip (·.2)
theorem l_im_IsGround_4 : (DL_im_IsGround_4).OK E_im_IsGround tt Z_im_IsGround (orcOf O_im_IsGround) B_im_IsGround_4 where
  ok := by kernel_rfl
  oke := by kernel_rfl
  okr := by kernel_rfl
  eta := fun _ => rfl
  step := fun _ _ => by kernel_rfl

noncomputable def B_im_IsGround_2 : Code := ((loopsOf C_im_IsGround).find? fun p => Nat.beq p.1 2).elim .skip (·.2)
theorem l_im_IsGround_2 : (DL_im_IsGround_2).OK E_im_IsGround tt Z_im_IsGround (orcOf O_im_IsGround) B_im_IsGround_2 where
  ok := by kernel_rfl
  oke := by kernel_rfl
  okr := by kernel_rfl
  eta := fun _ => rfl
  step := fun _ _ => by kernel_rfl

theorem o_im_IsGround : LoopsOK E_im_IsGround tt Z_im_IsGround O_im_IsGround C_im_IsGround := by
  have h : loopsOf C_im_IsGround = [(0, B_im_IsGround_0), (2, B_im_IsGround_2), (4, B_im_IsGround_4)] := by kernel_rfl
  unfold LoopsOK
  rw [h]
  exact List.forall_mem_cons.2 ⟨fun d h => (by have e : some (DL_im_IsGround_0) = some d := h; cases e; exact l_im_IsGround_0), List.forall_mem_cons.2 ⟨fun d h => (by have e : some (DL_im_IsGround_2) = some d := h; cases e; exact l_im_IsGround_2), List.forall_mem_cons.2 ⟨fun d h => (by have e : some (DL_im_IsGround_4) = some d := h; cases e; exact l_im_IsGround_4), fun _ h => absurd h List.not_mem_nil⟩⟩⟩

theorem ok_im_IsGround : FnOK prog E_im_IsGround tt 72 D_im_IsGround K_im_IsGround Z_im_IsGround O_im_IsGround f72 C_im_IsGround (fun x => T_im_IsGround x.1.1) (fun r => ((r, ()), ())) where
  at_ := func72
  name := by kernel_rfl
  body := by kernel_rfl
  res := by kernel_rfl
  ok := by kernel_rfl
  arity := fun _ => Nat.le_of_ble_eq_true (by kernel_rfl)
  pin := fun _ => by kernel_rfl
  chk := by kernel_rfl
  loops := o_im_IsGround
  run := e_im_IsGround
  F := fun _ => rfl
  emb := fun _ => rfl

theorem fd_im_IsGround : FDok prog (72, D_im_IsGround) := fn_ok mixed (env_ok (List.forall_mem_cons.2 ⟨fd_im_areBetween, fun _ h => absurd h List.not_mem_nil⟩)) tabOK ok_im_IsGround

theorem e_slices_IndexFunc_SSint_Sint : ∀ x : D_slices_IndexFunc_SSint_Sint.T, ((acode E_slices_IndexFunc_SSint_Sint tt Z_slices_IndexFunc_SSint_Sint (orcOf O_slices_IndexFunc_SSint_Sint) C_slices_IndexFunc_SSint_Sint (entry A_slices_IndexFunc_SSint_Sint I_slices_IndexFunc_SSint_Sint x)).map (keepRet tt K_slices_IndexFunc_SSint_Sint)).ev = ((T_slices_IndexFunc_SSint_Sint x.1.1 x.1.2.1).map fun r => some ((((r, ()), ())) : K_slices_IndexFunc_SSint_Sint.T)).ev := fun _ => by kernel_rfl

noncomputable def B_slices_IndexFunc_SSint_Sint_0 : Code := ((loopsOf C_slices_IndexFunc_SSint_Sint).find? fun p => Nat.beq p.1 0).elim .skip (·.2)
theorem l_slices_IndexFunc_SSint_Sint_0 : (DL_slices_IndexFunc_SSint_Sint_0).OK E_slices_IndexFunc_SSint_Sint tt Z_slices_IndexFunc_SSint_Sint (orcOf O_slices_IndexFunc_SSint_Sint) B_slices_IndexFunc_SSint_Sint_0 where
  ok := by kernel_rfl
  oke := by kernel_rfl
  okr := by kernel_rfl
  eta := fun _ => rfl
  step := fun _ _ => by kernel_rfl

theorem o_slices_IndexFunc_SSint_Sint : LoopsOK E_slices_IndexFunc_SSint_Sint tt Z_slices_IndexFunc_SSint_Sint O_slices_IndexFunc_SSint_Sint C_slices_IndexFunc_SSint_Sint := by
  have h : loopsOf C_slices_IndexFunc_SSint_Sint = [(0, B_slices_IndexFunc_SSint_Sint_0)] := by kernel_rfl
  unfold LoopsOK
  rw [h]
  exact List.forall_mem_cons.2 ⟨fun d h => (by have e : some (DL_slices_IndexFunc_SSint_Sint_0) = some d := h; cases e; exact l_slices_IndexFunc_SSint_Sint_0), fun _ h => absurd h List.not_mem_nil⟩

theorem ok_slices_IndexFunc_SSint_Sint : FnOK prog E_slices_IndexFunc_SSint_Sint tt 74 D_slices_IndexFunc_SSint_Sint K_slices_IndexFunc_SSint_Sint Z_slices_IndexFunc_SSint_Sint O_slices_IndexFunc_SSint_Sint f74 C_slices_IndexFunc_SSint_Sint (fun x => T_slices_IndexFunc_SSint_Sint x.1.1 x.1.2.1) (fun r => ((r, ()), ())) where
  at_ := func74
  name := by kernel_rfl
  body := by kernel_rfl
  res := by kernel_rfl
  ok := by kernel_rfl
  arity := fun _ => Nat.le_of_ble_eq_true (by kernel_rfl)
  pin := fun _ => by kernel_rfl
  chk := by kernel_rfl
  loops := o_slices_IndexFunc_SSint_Sint
  run := e_slices_IndexFunc_SSint_Sint
  F := fun _ => rfl
  emb := fun _ => rfl

theorem fd_slices_IndexFunc_SSint_Sint : FDok prog (74, D_slices_IndexFunc_SSint_Sint) := fn_ok mixed (env_ok (fun _ h => absurd h List.not_mem_nil)) tabOK ok_slices_IndexFunc_SSint_Sint

theorem e_im_isNear_1 : ∀ x : D_im_isNear_1.T, ((acode E_im_isNear_1 tt Z_im_isNear_1 (orcOf O_im_isNear_1) C_im_isNear_1 (entry A_im_isNear_1 I_im_isNear_1 x)).map (keepRet tt K_im_isNear_1)).ev = ((T_im_isNear_1 x.1.1 x.1.2.1.1 x.1.2.2.1.1 x.1.2.2.2.1.1).map fun r => some ((((r, ()), ())) : K_im_isNear_1.T)).ev := fun _ => by kernel_rfl

theorem o_im_isNear_1 : LoopsOK E_im_isNear_1 tt Z_im_isNear_1 O_im_isNear_1 C_im_isNear_1 := by
  have h : loopsOf C_im_isNear_1 = [] := by kernel_rfl
  unfold LoopsOK
  rw [h]
  exact fun _ h => absurd h List.not_mem_nil

theorem ok_im_isNear_1 : FnOK prog E_im_isNear_1 tt 137 D_im_isNear_1 K_im_isNear_1 Z_im_isNear_1 O_im_isNear_1 f137 C_im_isNear_1 (fun x => T_im_isNear_1 x.1.1 x.1.2.1.1 x.1.2.2.1.1 x.1.2.2.2.1.1) (fun r => ((r, ()), ())) where
  at_ := func137
  name := by kernel_rfl
  body := by kernel_rfl
  res := by kernel_rfl
  ok := by kernel_rfl
  arity := fun _ => Nat.le_of_ble_eq_true (by kernel_rfl)
  pin := fun _ => by kernel_rfl
  chk := by kernel_rfl
  loops := o_im_isNear_1
  run := e_im_isNear_1
  F := fun _ => rfl
  emb := fun _ => rfl

theorem fd_im_isNear_1 : FDok prog (137, D_im_isNear_1) := fn_ok mixed (env_ok (fun _ h => absurd h List.not_mem_nil)) tabOK ok_im_isNear_1

theorem e_im_isNear : ∀ x : D_im_isNear.T, ((acode E_im_isNear tt Z_im_isNear (orcOf O_im_isNear) C_im_isNear (entry A_im_isNear I_im_isNear x)).map (keepRet tt K_im_isNear)).ev = ((T_im_isNear x.1.1 x.1.2.1 x.1.2.2.1 x.1.2.2.2.1).map fun r => some ((((r, ()), ())) : K_im_isNear.T)).ev := fun _ => by kernel_rfl

theorem o_im_isNear : LoopsOK E_im_isNear tt Z_im_isNear O_im_isNear C_im_isNear := by
  have h : loopsOf C_im_isNear = [] := by kernel_rfl
  unfold LoopsOK
  rw [h]
  exact fun _ h => absurd h List.not_mem_nil

theorem ok_im_isNear : FnOK prog E_im_isNear tt 76 D_im_isNear K_im_isNear Z_im_isNear O_im_isNear f76 C_im_isNear (fun x => T_im_isNear x.1.1 x.1.2.1 x.1.2.2.1 x.1.2.2.2.1) (fun r => ((r, ()), ())) where
  at_ := func76
  name := by kernel_rfl
  body := by kernel_rfl
  res := by kernel_rfl
  ok := by kernel_rfl
  arity := fun _ => Nat.le_of_ble_eq_true (by kernel_rfl)
  pin := fun _ => by kernel_rfl
  chk := by kernel_rfl
  loops := o_im_isNear
  run := e_im_isNear
  F := fun _ => rfl
  emb := fun _ => rfl

theorem fd_im_isNear : FDok prog (76, D_im_isNear) := fn_ok mixed (env_ok (List.forall_mem_cons.2 ⟨fd_slices_ContainsFunc_Sint_int, List.forall_mem_cons.2 ⟨fd_im_isNear_1, fun _ h => absurd h List.not_mem_nil⟩⟩)) tabOK ok_im_isNear

theorem e_im_NearGroups_1 : ∀ x : D_im_NearGroups_1.T, ((acode E_im_NearGroups_1 tt Z_im_NearGroups_1 (orcOf O_im_NearGroups_1) C_im_NearGroups_1 (entry A_im_NearGroups_1 I_im_NearGroups_1 x)).map (keepRet tt K_im_NearGroups_1)).ev = ((T_im_NearGroups_1 x.1.1 x.1.2.1.1 x.1.2.2.1.1 x.1.2.2.2.1.1).map fun r => some ((((r, ()), ())) : K_im_NearGroups_1.T)).ev := fun _ => by kernel_rfl

theorem o_im_NearGroups_1 : LoopsOK E_im_NearGroups_1 tt Z_im_NearGroups_1 O_im_NearGroups_1 C_im_NearGroups_1 := by
  have h : loopsOf C_im_NearGroups_1 = [] := by kernel_rfl
  unfold LoopsOK
  rw [h]
  exact fun _ h => absurd h List.not_mem_nil

theorem ok_im_NearGroups_1 : FnOK prog E_im_NearGroups_1 tt 75 D_im_NearGroups_1 K_im_NearGroups_1 Z_im_NearGroups_1 O_im_NearGroups_1 f75 C_im_NearGroups_1 (fun x => T_im_NearGroups_1 x.1.1 x.1.2.1.1 x.1.2.2.1.1 x.1.2.2.2.1.1) (fun r => ((r, ()), ())) where
  at_ := func75
  name := by kernel_rfl
  body := by kernel_rfl
  res := by kernel_rfl
  ok := by kernel_rfl
  arity := fun _ => Nat.le_of_ble_eq_true (by kernel_rfl)
  pin := fun _ => by kernel_rfl
  chk := by kernel_rfl
  loops := o_im_NearGroups_1
  run := e_im_NearGroups_1
  F := fun _ => rfl
  emb := fun _ => rfl

theorem fd_im_NearGroups_1 : FDok prog (75, D_im_NearGroups_1) := fn_ok mixed (env_ok (List.forall_mem_cons.2 ⟨fd_im_isNear, fun _ h => absurd h List.not_mem_nil⟩)) tabOK ok_im_NearGroups_1

theorem e_im_NearGroups : ∀ x : D_im_NearGroups.T, ((acode E_im_NearGroups tt Z_im_NearGroups (orcOf O_im_NearGroups) C_im_NearGroups (entry A_im_NearGroups I_im_NearGroups x)).map (keepRet tt K_im_NearGroups)).ev = ((T_im_NearGroups x.1.1 x.1.2.1).map fun r => some (((((), (r.1, ())), (r.2, ()))) : K_im_NearGroups.T)).ev := fun _ => by kernel_rfl

noncomputable def B_im_NearGroups_0 : Code := ((loopsOf C_im_NearGroups).find? fun p => Nat.beq p.1 0).elim .skip (·.2)
theorem l_im_NearGroups_0 : (DL_im_NearGroups_0).OK E_im_NearGroups tt Z_im_NearGroups (orcOf O_im_NearGroups) B_im_NearGroups_0 where
  ok := by kernel_rfl
  oke := by kernel_rfl
  okr := by kernel_rfl
  eta := fun _ => rfl
  step := fun _ _ => by kernel_rfl

theorem o_im_NearGroups : LoopsOK E_im_NearGroups tt Z_im_NearGroups O_im_NearGroups C_im_NearGroups := by
  have h : loopsOf C_im_NearGroups = [(0, B_im_NearGroups_0)] := by kernel_rfl
  unfold LoopsOK
  rw [h]
  exact List.forall_mem_cons.2 ⟨fun d h => (by have e : some (DL_im_NearGroups_0) = some d := h; cases e; exact l_im_NearGroups_0), fun _ h => absurd h List.not_mem_nil⟩

theorem ok_im_NearGroups : FnOK prog E_im_NearGroups tt 18 D_im_NearGroups K_im_NearGroups Z_im_NearGroups O_im_NearGroups f18 C_im_NearGroups (fun x => T_im_NearGroups x.1.1 x.1.2.1) (fun r => (((), (r.1, ())), (r.2, ()))) where
  at_ := func18
  name := by kernel_rfl
  body := by kernel_rfl
  res := by kernel_rfl
  ok := by kernel_rfl
  arity := fun _ => Nat.le_of_ble_eq_true (by kernel_rfl)
  pin := fun _ => by kernel_rfl
  chk := by kernel_rfl
  loops := o_im_NearGroups
  run := e_im_NearGroups
  F := fun _ => rfl
  emb := fun _ => rfl

theorem fd_im_NearGroups : FDok prog (18, D_im_NearGroups) := fn_ok mixed (env_ok (List.forall_mem_cons.2 ⟨fd_im_IsGround, List.forall_mem_cons.2 ⟨fd_im_between, List.forall_mem_cons.2 ⟨fd_slices_IndexFunc_SSint_Sint, List.forall_mem_cons.2 ⟨fd_im_NearGroups_1, fun _ h => absurd h List.not_mem_nil⟩⟩⟩⟩)) tabOK ok_im_NearGroups

theorem e_lw_eqIntS : ∀ x : D_lw_eqIntS.T, ((acode E_lw_eqIntS tt Z_lw_eqIntS (orcOf O_lw_eqIntS) C_lw_eqIntS (entry A_lw_eqIntS I_lw_eqIntS x)).map (keepRet tt K_lw_eqIntS)).ev = ((T_lw_eqIntS x.1.1 x.1.2.1).map fun r => some ((((r, ()), ())) : K_lw_eqIntS.T)).ev := fun _ => by kernel_rfl

noncomputable def B_lw_eqIntS_0 : Code := ((loopsOf C_lw_eqIntS).find? fun p => Nat.beq p.1 0).elim .skip (·.2)
theorem l_lw_eqIntS_0 : (DL_lw_eqIntS_0).OK E_lw_eqIntS tt Z_lw_eqIntS (orcOf O_lw_eqIntS) B_lw_eqIntS_0 where
  ok := by kernel_rfl
  oke := by kernel_rfl
  okr := by kernel_rfl
  eta := fun _ => rfl
  step := fun _ _ => by kernel_rfl

theorem o_lw_eqIntS : LoopsOK E_lw_eqIntS tt Z_lw_eqIntS O_lw_eqIntS C_lw_eqIntS := by
  have h : loopsOf C_lw_eqIntS = [(0, B_lw_eqIntS_0)] := by kernel_rfl
  unfold LoopsOK
  rw [h]
  exact List.forall_mem_cons.2 ⟨fun d h => (by have e : some (DL_lw_eqIntS_0) = some d := h; cases e; exact l_lw_eqIntS_0), fun _ h => absurd h List.not_mem_nil⟩

theorem ok_lw_eqIntS : FnOK prog E_lw_eqIntS tt 38 D_lw_eqIntS K_lw_eqIntS Z_lw_eqIntS O_lw_eqIntS f38 C_lw_eqIntS (fun x => T_lw_eqIntS x.1.1 x.1.2.1) (fun r => ((r, ()), ())) where
  at_ := func38
  name := by kernel_rfl
  body := by kernel_rfl
  res := by kernel_rfl
  ok := by kernel_rfl
  arity := fun _ => Nat.le_of_ble_eq_true (by kernel_rfl)
  pin := fun _ => by kernel_rfl
  chk := by kernel_rfl
  loops := o_lw_eqIntS
  run := e_lw_eqIntS
  F := fun _ => rfl
  emb := fun _ => rfl

theorem fd_lw_eqIntS : FDok prog (38, D_lw_eqIntS) := fn_ok mixed (env_ok (fun _ h => absurd h List.not_mem_nil)) tabOK ok_lw_eqIntS

theorem e_lw_eqIntSS : ∀ x : D_lw_eqIntSS.T, ((acode E_lw_eqIntSS tt Z_lw_eqIntSS (orcOf O_lw_eqIntSS) C_lw_eqIntSS (entry A_lw_eqIntSS I_lw_eqIntSS x)).map (keepRet tt K_lw_eqIntSS)).ev = ((T_lw_eqIntSS x.1.1 x.1.2.1).map fun r => some ((((r, ()), ())) : K_lw_eqIntSS.T)).ev := fun _ => by kernel_rfl

noncomputable def B_lw_eqIntSS_0 : Code := ((loopsOf C_lw_eqIntSS).find? fun p => Nat.beq p.1 0).elim .skip (·.2)
theorem l_lw_eqIntSS_0 : (DL_lw_eqIntSS_0).OK E_lw_eqIntSS tt Z_lw_eqIntSS (orcOf O_lw_eqIntSS) B_lw_eqIntSS_0 where
  ok := by kernel_rfl
  oke := by kernel_rfl
  okr := by kernel_rfl
  eta := fun _ => rfl
  step := fun _ _ => by kernel_rfl

theorem o_lw_eqIntSS : LoopsOK E_lw_eqIntSS tt Z_lw_eqIntSS O_lw_eqIntSS C_lw_eqIntSS := by
  have h : loopsOf C_lw_eqIntSS = [(0, B_lw_eqIntSS_0)] := by kernel_rfl
  unfold LoopsOK
  rw [h]
  exact List.forall_mem_cons.2 ⟨fun d h => (by have e : some (DL_lw_eqIntSS_0) = some d := h; cases e; exact l_lw_eqIntSS_0), fun _ h => absurd h List.not_mem_nil⟩

theorem ok_lw_eqIntSS : FnOK prog E_lw_eqIntSS tt 19 D_lw_eqIntSS K_lw_eqIntSS Z_lw_eqIntSS O_lw_eqIntSS f19 C_lw_eqIntSS (fun x => T_lw_eqIntSS x.1.1 x.1.2.1) (fun r => ((r, ()), ())) where
  at_ := func19
  name := by kernel_rfl
  body := by kernel_rfl
  res := by kernel_rfl
  ok := by kernel_rfl
  arity := fun _ => Nat.le_of_ble_eq_true (by kernel_rfl)
  pin := fun _ => by kernel_rfl
  chk := by kernel_rfl
  loops := o_lw_eqIntSS
  run := e_lw_eqIntSS
  F := fun _ => rfl
  emb := fun _ => rfl

theorem fd_lw_eqIntSS : FDok prog (19, D_lw_eqIntSS) := fn_ok mixed (env_ok (List.forall_mem_cons.2 ⟨fd_lw_eqIntS, fun _ h => absurd h List.not_mem_nil⟩)) tabOK ok_lw_eqIntSS

theorem e_lw_markIntS : ∀ x : D_lw_markIntS.T, ((acode E_lw_markIntS tt Z_lw_markIntS (orcOf O_lw_markIntS) C_lw_markIntS (entry A_lw_markIntS I_lw_markIntS x)).map (keepRet tt K_lw_markIntS)).ev = ((T_lw_markIntS x.1.2.1 x.2.1).map fun r => some ((((r.1, ()), (r.2, ()))) : K_lw_markIntS.T)).ev := fun _ => by kernel_rfl

noncomputable def B_lw_markIntS_0 : Code := ((loopsOf C_lw_markIntS).find? fun p => Nat.beq p.1 0).elim .skip (·.2)
theorem l_lw_markIntS_0 : (DL_lw_markIntS_0).OK E_lw_markIntS tt Z_lw_markIntS (orcOf O_lw_markIntS) B_lw_markIntS_0 where
  ok := by kernel_rfl
  oke := by kernel_rfl
  okr := by kernel_rfl
  eta := fun _ => rfl
  step := fun _ _ => by kernel_rfl

theorem o_lw_markIntS : LoopsOK E_lw_markIntS tt Z_lw_markIntS O_lw_markIntS C_lw_markIntS := by
  have h : loopsOf C_lw_markIntS = [(0, B_lw_markIntS_0)] := by kernel_rfl
  unfold LoopsOK
  rw [h]
  exact List.forall_mem_cons.2 ⟨fun d h => (by have e : some (DL_lw_markIntS_0) = some d := h; cases e; exact l_lw_markIntS_0), fun _ h => absurd h List.not_mem_nil⟩

theorem ok_lw_markIntS : FnOK prog E_lw_markIntS tt 46 D_lw_markIntS K_lw_markIntS Z_lw_markIntS O_lw_markIntS f46 C_lw_markIntS (fun x => T_lw_markIntS x.1.2.1 x.2.1) (fun r => ((r.1, ()), (r.2, ()))) where
  at_ := func46
  name := by kernel_rfl
  body := by kernel_rfl
  res := by kernel_rfl
  ok := by kernel_rfl
  arity := fun _ => Nat.le_of_ble_eq_true (by kernel_rfl)
  pin := fun _ => by kernel_rfl
  chk := by kernel_rfl
  loops := o_lw_markIntS
  run := e_lw_markIntS
  F := fun _ => rfl
  emb := fun _ => rfl

theorem fd_lw_markIntS : FDok prog (46, D_lw_markIntS) := fn_ok mixed (env_ok (fun _ h => absurd h List.not_mem_nil)) tabOK ok_lw_markIntS

theorem e_lw_markIntSS : ∀ x : D_lw_markIntSS.T, ((acode E_lw_markIntSS tt Z_lw_markIntSS (orcOf O_lw_markIntSS) C_lw_markIntSS (entry A_lw_markIntSS I_lw_markIntSS x)).map (keepRet tt K_lw_markIntSS)).ev = ((T_lw_markIntSS x.1.2.1 x.2.1).map fun r => some ((((r.1, ()), (r.2, ()))) : K_lw_markIntSS.T)).ev := fun _ => by kernel_rfl

noncomputable def B_lw_markIntSS_0 : Code := ((loopsOf C_lw_markIntSS).find? fun p => Nat.beq p.1 0).elim .skip (·.2)
theorem l_lw_markIntSS_0 : (DL_lw_markIntSS_0).OK E_lw_markIntSS tt Z_lw_markIntSS (orcOf O_lw_markIntSS) B_lw_markIntSS_0 where
  ok := by kernel_rfl
  oke := by kernel_rfl
  okr := by kernel_rfl
  eta := fun _ => rfl
  step := fun _ _ => by kernel_rfl

theorem o_lw_markIntSS : LoopsOK E_lw_markIntSS tt Z_lw_markIntSS O_lw_markIntSS C_lw_markIntSS := by
  have h : loopsOf C_lw_markIntSS = [(0, B_lw_markIntSS_0)] := by kernel_rfl
  unfold LoopsOK
  rw [h]
  exact List.forall_mem_cons.2 ⟨fun d h => (by have e : some (DL_lw_markIntSS_0) = some d := h; cases e; exact l_lw_markIntSS_0), fun _ h => absurd h List.not_mem_nil⟩

theorem ok_lw_markIntSS : FnOK prog E_lw_markIntSS tt 20 D_lw_markIntSS K_lw_markIntSS Z_lw_markIntSS O_lw_markIntSS f20 C_lw_markIntSS (fun x => T_lw_markIntSS x.1.2.1 x.2.1) (fun r => ((r.1, ()), (r.2, ()))) where
  at_ := func20
  name := by kernel_rfl
  body := by kernel_rfl
  res := by kernel_rfl
  ok := by kernel_rfl
  arity := fun _ => Nat.le_of_ble_eq_true (by kernel_rfl)
  pin := fun _ => by kernel_rfl
  chk := by kernel_rfl
  loops := o_lw_markIntSS
  run := e_lw_markIntSS
  F := fun _ => rfl
  emb := fun _ => rfl

theorem fd_lw_markIntSS : FDok prog (20, D_lw_markIntSS) := fn_ok mixed (env_ok (List.forall_mem_cons.2 ⟨fd_lw_markIntS, fun _ h => absurd h List.not_mem_nil⟩)) tabOK ok_lw_markIntSS

theorem e_lw_heldIntS : ∀ x : D_lw_heldIntS.T, ((acode E_lw_heldIntS tt Z_lw_heldIntS (orcOf O_lw_heldIntS) C_lw_heldIntS (entry A_lw_heldIntS I_lw_heldIntS x)).map (keepRet tt K_lw_heldIntS)).ev = ((T_lw_heldIntS x.1.1 x.1.2.1).map fun r => some ((((r, ()), ())) : K_lw_heldIntS.T)).ev := fun _ => by kernel_rfl

noncomputable def B_lw_heldIntS_0 : Code := ((loopsOf C_lw_heldIntS).find? fun p => Nat.beq p.1 0).elim .skip (·.2)
theorem l_lw_heldIntS_0 : (DL_lw_heldIntS_0).OK E_lw_heldIntS tt Z_lw_heldIntS (orcOf O_lw_heldIntS) B_lw_heldIntS_0 where
  ok := by kernel_rfl
  oke := by kernel_rfl
  okr := by kernel_rfl
  eta := fun _ => rfl
  step := fun _ _ => by kernel_rfl

theorem o_lw_heldIntS : LoopsOK E_lw_heldIntS tt Z_lw_heldIntS O_lw_heldIntS C_lw_heldIntS := by
  have h : loopsOf C_lw_heldIntS = [(0, B_lw_heldIntS_0)] := by kernel_rfl
  unfold LoopsOK
  rw [h]
  exact List.forall_mem_cons.2 ⟨fun d h => (by have e : some (DL_lw_heldIntS_0) = some d := h; cases e; exact l_lw_heldIntS_0), fun _ h => absurd h List.not_mem_nil⟩

theorem ok_lw_heldIntS : FnOK prog E_lw_heldIntS tt 47 D_lw_heldIntS K_lw_heldIntS Z_lw_heldIntS O_lw_heldIntS f47 C_lw_heldIntS (fun x => T_lw_heldIntS x.1.1 x.1.2.1) (fun r => ((r, ()), ())) where
  at_ := func47
  name := by kernel_rfl
  body := by kernel_rfl
  res := by kernel_rfl
  ok := by kernel_rfl
  arity := fun _ => Nat.le_of_ble_eq_true (by kernel_rfl)
  pin := fun _ => by kernel_rfl
  chk := by kernel_rfl
  loops := o_lw_heldIntS
  run := e_lw_heldIntS
  F := fun _ => rfl
  emb := fun _ => rfl

theorem fd_lw_heldIntS : FDok prog (47, D_lw_heldIntS) := fn_ok mixed (env_ok (fun _ h => absurd h List.not_mem_nil)) tabOK ok_lw_heldIntS

theorem e_lw_heldIntSS : ∀ x : D_lw_heldIntSS.T, ((acode E_lw_heldIntSS tt Z_lw_heldIntSS (orcOf O_lw_heldIntSS) C_lw_heldIntSS (entry A_lw_heldIntSS I_lw_heldIntSS x)).map (keepRet tt K_lw_heldIntSS)).ev = ((T_lw_heldIntSS x.1.1 x.1.2.1).map fun r => some ((((r, ()), ())) : K_lw_heldIntSS.T)).ev := fun _ => by kernel_rfl

noncomputable def B_lw_heldIntSS_0 : Code := ((loopsOf C_lw_heldIntSS).find? fun p => Nat.beq p.1 0).elim .skip (·.2)
theorem l_lw_heldIntSS_0 : (DL_lw_heldIntSS_0).OK E_lw_heldIntSS tt Z_lw_heldIntSS (orcOf O_lw_heldIntSS) B_lw_heldIntSS_0 where
  ok := by kernel_rfl
  oke := by kernel_rfl
  okr := by kernel_rfl
  eta := fun _ => rfl
  step := fun _ _ => by kernel_rfl

theorem o_lw_heldIntSS : LoopsOK E_lw_heldIntSS tt Z_lw_heldIntSS O_lw_heldIntSS C_lw_heldIntSS := by
  have h : loopsOf C_lw_heldIntSS = [(0, B_lw_heldIntSS_0)] := by kernel_rfl
  unfold LoopsOK
  rw [h]
  exact List.forall_mem_cons.2 ⟨fun d h => (by have e : some (DL_lw_heldIntSS_0) = some d := h; cases e; exact l_lw_heldIntSS_0), fun _ h => absurd h List.not_mem_nil⟩

theorem ok_lw_heldIntSS : FnOK prog E_lw_heldIntSS tt 21 D_lw_heldIntSS K_lw_heldIntSS Z_lw_heldIntSS O_lw_heldIntSS f21 C_lw_heldIntSS (fun x => T_lw_heldIntSS x.1.1 x.1.2.1) (fun r => ((r, ()), ())) where
  at_ := func21
  name := by kernel_rfl
  body := by kernel_rfl
  res := by kernel_rfl
  ok := by kernel_rfl
  arity := fun _ => Nat.le_of_ble_eq_true (by kernel_rfl)
  pin := fun _ => by kernel_rfl
  chk := by kernel_rfl
  loops := o_lw_heldIntSS
  run := e_lw_heldIntSS
  F := fun _ => rfl
  emb := fun _ => rfl

theorem fd_lw_heldIntSS : FDok prog (21, D_lw_heldIntSS) := fn_ok mixed (env_ok (List.forall_mem_cons.2 ⟨fd_lw_heldIntS, fun _ h => absurd h List.not_mem_nil⟩)) tabOK ok_lw_heldIntSS

theorem e_lw_FnExactNearGroups : ∀ x : D_lw_FnExactNearGroups.T, ((acode E_lw_FnExactNearGroups tt Z_lw_FnExactNearGroups (orcOf O_lw_FnExactNearGroups) C_lw_FnExactNearGroups (entry A_lw_FnExactNearGroups I_lw_FnExactNearGroups x)).map (keepRet tt K_lw_FnExactNearGroups)).ev = ((T_lw_FnExactNearGroups x.1.1 x.1.2.1).map fun r => some ((((r, ()), ())) : K_lw_FnExactNearGroups.T)).ev := fun _ => by kernel_rfl

theorem o_lw_FnExactNearGroups : LoopsOK E_lw_FnExactNearGroups tt Z_lw_FnExactNearGroups O_lw_FnExactNearGroups C_lw_FnExactNearGroups := by
  have h : loopsOf C_lw_FnExactNearGroups = [] := by kernel_rfl
  unfold LoopsOK
  rw [h]
  exact fun _ h => absurd h List.not_mem_nil

theorem ok_lw_FnExactNearGroups : FnOK prog E_lw_FnExactNearGroups tt 3 D_lw_FnExactNearGroups K_lw_FnExactNearGroups Z_lw_FnExactNearGroups O_lw_FnExactNearGroups f3 C_lw_FnExactNearGroups (fun x => T_lw_FnExactNearGroups x.1.1 x.1.2.1) (fun r => ((r, ()), ())) where
  at_ := func3
  name := by kernel_rfl
  body := by kernel_rfl
  res := by kernel_rfl
  ok := by kernel_rfl
  arity := fun _ => Nat.le_of_ble_eq_true (by kernel_rfl)
  pin := fun _ => by kernel_rfl
  chk := by kernel_rfl
  loops := o_lw_FnExactNearGroups
  run := e_lw_FnExactNearGroups
  F := fun _ => rfl
  emb := fun _ => rfl

theorem fd_lw_FnExactNearGroups : FDok prog (3, D_lw_FnExactNearGroups) := fn_ok mixed (env_ok (List.forall_mem_cons.2 ⟨fd_lw_szIntSS, List.forall_mem_cons.2 ⟨fd_lw_toIntSS, List.forall_mem_cons.2 ⟨fd_sp_NearGroups, List.forall_mem_cons.2 ⟨fd_im_NearGroups, List.forall_mem_cons.2 ⟨fd_lw_eqIntSS, List.forall_mem_cons.2 ⟨fd_lw_markIntSS, List.forall_mem_cons.2 ⟨fd_lw_heldIntSS, fun _ h => absurd h List.not_mem_nil⟩⟩⟩⟩⟩⟩⟩)) tabOK ok_lw_FnExactNearGroups

theorem e_lw_szField : ∀ x : D_lw_szField.T, ((acode E_lw_szField tt Z_lw_szField (orcOf O_lw_szField) C_lw_szField (entry A_lw_szField I_lw_szField x)).map (keepRet tt K_lw_szField)).ev = ((T_lw_szField x.1.1.1 x.1.1.2.1 x.1.2.1).map fun r => some ((((r, ()), ())) : K_lw_szField.T)).ev := fun _ => by kernel_rfl

theorem o_lw_szField : LoopsOK E_lw_szField tt Z_lw_szField O_lw_szField C_lw_szField := by
  have h : loopsOf C_lw_szField = [] := by kernel_rfl
  unfold LoopsOK
  rw [h]
  exact fun _ h => absurd h List.not_mem_nil

theorem ok_lw_szField : FnOK prog E_lw_szField tt 22 D_lw_szField K_lw_szField Z_lw_szField O_lw_szField f22 C_lw_szField (fun x => T_lw_szField x.1.1.1 x.1.1.2.1 x.1.2.1) (fun r => ((r, ()), ())) where
  at_ := func22
  name := by kernel_rfl
  body := by kernel_rfl
  res := by kernel_rfl
  ok := by kernel_rfl
  arity := fun _ => Nat.le_of_ble_eq_true (by kernel_rfl)
  pin := fun _ => by kernel_rfl
  chk := by kernel_rfl
  loops := o_lw_szField
  run := e_lw_szField
  F := fun _ => rfl
  emb := fun _ => rfl

theorem fd_lw_szField : FDok prog (22, D_lw_szField) := fn_ok mixed (env_ok (List.forall_mem_cons.2 ⟨fd_lw_szIntS, List.forall_mem_cons.2 ⟨fd_lw_szIntSS, fun _ h => absurd h List.not_mem_nil⟩⟩)) tabOK ok_lw_szField

theorem e_lw_toField : ∀ x : D_lw_toField.T, ((acode E_lw_toField tt Z_lw_toField (orcOf O_lw_toField) C_lw_toField (entry A_lw_toField I_lw_toField x)).map (keepRet tt K_lw_toField)).ev = ((T_lw_toField x.1.1.1 x.1.1.2.1).map fun r => some ((((((), ((), ())), ()), (r.1, (r.2, ())))) : K_lw_toField.T)).ev := fun _ => by kernel_rfl

theorem o_lw_toField : LoopsOK E_lw_toField tt Z_lw_toField O_lw_toField C_lw_toField := by
  have h : loopsOf C_lw_toField = [] := by kernel_rfl
  unfold LoopsOK
  rw [h]
  exact fun _ h => absurd h List.not_mem_nil

theorem ok_lw_toField : FnOK prog E_lw_toField tt 24 D_lw_toField K_lw_toField Z_lw_toField O_lw_toField f24 C_lw_toField (fun x => T_lw_toField x.1.1.1 x.1.1.2.1) (fun r => ((((), ((), ())), ()), (r.1, (r.2, ())))) where
  at_ := func24
  name := by kernel_rfl
  body := by kernel_rfl
  res := by kernel_rfl
  ok := by kernel_rfl
  arity := fun _ => Nat.le_of_ble_eq_true (by kernel_rfl)
  pin := fun _ => by kernel_rfl
  chk := by kernel_rfl
  loops := o_lw_toField
  run := e_lw_toField
  F := fun _ => rfl
  emb := fun _ => rfl

theorem fd_lw_toField : FDok prog (24, D_lw_toField) := fn_ok mixed (env_ok (List.forall_mem_cons.2 ⟨fd_lw_toIntS, List.forall_mem_cons.2 ⟨fd_lw_toIntSS, fun _ h => absurd h List.not_mem_nil⟩⟩)) tabOK ok_lw_toField

theorem e_sp_l2Good : ∀ x : D_sp_l2Good.T, ((acode E_sp_l2Good tt Z_sp_l2Good (orcOf O_sp_l2Good) C_sp_l2Good (entry A_sp_l2Good I_sp_l2Good x)).map (keepRet tt K_sp_l2Good)).ev = ((T_sp_l2Good x.1.1.1 x.1.1.2.1).map fun r => some ((((r, ()), ())) : K_sp_l2Good.T)).ev := fun _ => by kernel_rfl

noncomputable def B_sp_l2Good_0 : Code := ((loopsOf C_sp_l2Good).find? fun p => Nat.beq p.1 0).elim .skip (·.2)
theorem l_sp_l2Good_0 : (DL_sp_l2Good_0).OK E_sp_l2Good tt Z_sp_l2Good (orcOf O_sp_l2Good) B_sp_l2Good_0 where
  ok := by kernel_rfl
  oke := by kernel_rfl
  okr := by kernel_rfl
  eta := fun _ => rfl
  step := fun _ _ => by kernel_rfl

theorem o_sp_l2Good : LoopsOK E_sp_l2Good tt Z_sp_l2Good O_sp_l2Good C_sp_l2Good := by
  have h : loopsOf C_sp_l2Good = [(0, B_sp_l2Good_0)] := by kernel_rfl
  unfold LoopsOK
  rw [h]
  exact List.forall_mem_cons.2 ⟨fun d h => (by have e : some (DL_sp_l2Good_0) = some d := h; cases e; exact l_sp_l2Good_0), fun _ h => absurd h List.not_mem_nil⟩

theorem ok_sp_l2Good : FnOK prog E_sp_l2Good tt 138 D_sp_l2Good K_sp_l2Good Z_sp_l2Good O_sp_l2Good f138 C_sp_l2Good (fun x => T_sp_l2Good x.1.1.1 x.1.1.2.1) (fun r => ((r, ()), ())) where
  at_ := func138
  name := by kernel_rfl
  body := by kernel_rfl
  res := by kernel_rfl
  ok := by kernel_rfl
  arity := fun _ => Nat.le_of_ble_eq_true (by kernel_rfl)
  pin := fun _ => by kernel_rfl
  chk := by kernel_rfl
  loops := o_sp_l2Good
  run := e_sp_l2Good
  F := fun _ => rfl
  emb := fun _ => rfl

theorem fd_sp_l2Good : FDok prog (138, D_sp_l2Good) := fn_ok mixed (env_ok (List.forall_mem_cons.2 ⟨fd_sp_l2Row, List.forall_mem_cons.2 ⟨fd_sp_l1In, fun _ h => absurd h List.not_mem_nil⟩⟩)) tabOK ok_sp_l2Good

theorem e_sp_l1Rising : ∀ x : D_sp_l1Rising.T, ((acode E_sp_l1Rising tt Z_sp_l1Rising (orcOf O_sp_l1Rising) C_sp_l1Rising (entry A_sp_l1Rising I_sp_l1Rising x)).map (keepRet tt K_sp_l1Rising)).ev = ((T_sp_l1Rising x.1.1 x.1.2.1 x.1.2.2.1).map fun r => some ((((r, ()), ())) : K_sp_l1Rising.T)).ev := fun _ => by kernel_rfl

noncomputable def B_sp_l1Rising_0 : Code := ((loopsOf C_sp_l1Rising).find? fun p => Nat.beq p.1 0).elim .skip (·.2)
theorem l_sp_l1Rising_0 : (DL_sp_l1Rising_0).OK E_sp_l1Rising tt Z_sp_l1Rising (orcOf O_sp_l1Rising) B_sp_l1Rising_0 where
  ok := by kernel_rfl
  oke := by kernel_rfl
  okr := by kernel_rfl
  eta := fun _ => rfl
  step := fun _ _ => by kernel_rfl

theorem o_sp_l1Rising : LoopsOK E_sp_l1Rising tt Z_sp_l1Rising O_sp_l1Rising C_sp_l1Rising := by
  have h : loopsOf C_sp_l1Rising = [(0, B_sp_l1Rising_0)] := by kernel_rfl
  unfold LoopsOK
  rw [h]
  exact List.forall_mem_cons.2 ⟨fun d h => (by have e : some (DL_sp_l1Rising_0) = some d := h; cases e; exact l_sp_l1Rising_0), fun _ h => absurd h List.not_mem_nil⟩

theorem ok_sp_l1Rising : FnOK prog E_sp_l1Rising tt 178 D_sp_l1Rising K_sp_l1Rising Z_sp_l1Rising O_sp_l1Rising f178 C_sp_l1Rising (fun x => T_sp_l1Rising x.1.1 x.1.2.1 x.1.2.2.1) (fun r => ((r, ()), ())) where
  at_ := func178
  name := by kernel_rfl
  body := by kernel_rfl
  res := by kernel_rfl
  ok := by kernel_rfl
  arity := fun _ => Nat.le_of_ble_eq_true (by kernel_rfl)
  pin := fun _ => by kernel_rfl
  chk := by kernel_rfl
  loops := o_sp_l1Rising
  run := e_sp_l1Rising
  F := fun _ => rfl
  emb := fun _ => rfl

theorem fd_sp_l1Rising : FDok prog (178, D_sp_l1Rising) := fn_ok mixed (env_ok (List.forall_mem_cons.2 ⟨fd_sp_l1In, fun _ h => absurd h List.not_mem_nil⟩)) tabOK ok_sp_l1Rising

theorem e_sp_l2Set : ∀ x : D_sp_l2Set.T, ((acode E_sp_l2Set tt Z_sp_l2Set (orcOf O_sp_l2Set) C_sp_l2Set (entry A_sp_l2Set I_sp_l2Set x)).map (keepRet tt K_sp_l2Set)).ev = ((T_sp_l2Set x.1.1.1 x.1.1.2.1 x.1.2.1).map fun r => some ((((r, ()), ())) : K_sp_l2Set.T)).ev := fun _ => by kernel_rfl

theorem o_sp_l2Set : LoopsOK E_sp_l2Set tt Z_sp_l2Set O_sp_l2Set C_sp_l2Set := by
  have h : loopsOf C_sp_l2Set = [] := by kernel_rfl
  unfold LoopsOK
  rw [h]
  exact fun _ h => absurd h List.not_mem_nil

theorem ok_sp_l2Set : FnOK prog E_sp_l2Set tt 139 D_sp_l2Set K_sp_l2Set Z_sp_l2Set O_sp_l2Set f139 C_sp_l2Set (fun x => T_sp_l2Set x.1.1.1 x.1.1.2.1 x.1.2.1) (fun r => ((r, ()), ())) where
  at_ := func139
  name := by kernel_rfl
  body := by kernel_rfl
  res := by kernel_rfl
  ok := by kernel_rfl
  arity := fun _ => Nat.le_of_ble_eq_true (by kernel_rfl)
  pin := fun _ => by kernel_rfl
  chk := by kernel_rfl
  loops := o_sp_l2Set
  run := e_sp_l2Set
  F := fun _ => rfl
  emb := fun _ => rfl

theorem fd_sp_l2Set : FDok prog (139, D_sp_l2Set) := fn_ok mixed (env_ok (List.forall_mem_cons.2 ⟨fd_sp_l1Rising, fun _ h => absurd h List.not_mem_nil⟩)) tabOK ok_sp_l2Set

theorem e_sp_l12Good : ∀ x : D_sp_l12Good.T, ((acode E_sp_l12Good tt Z_sp_l12Good (orcOf O_sp_l12Good) C_sp_l12Good (entry A_sp_l12Good I_sp_l12Good x)).map (keepRet tt K_sp_l12Good)).ev = ((T_sp_l12Good x.1.1.1 x.1.1.2.1 x.1.1.2.2.1 x.1.1.2.2.2.1).map fun r => some ((((r, ()), ())) : K_sp_l12Good.T)).ev := fun _ => by kernel_rfl

theorem o_sp_l12Good : LoopsOK E_sp_l12Good tt Z_sp_l12Good O_sp_l12Good C_sp_l12Good := by
  have h : loopsOf C_sp_l12Good = [] := by kernel_rfl
  unfold LoopsOK
  rw [h]
  exact fun _ h => absurd h List.not_mem_nil

theorem ok_sp_l12Good : FnOK prog E_sp_l12Good tt 77 D_sp_l12Good K_sp_l12Good Z_sp_l12Good O_sp_l12Good f77 C_sp_l12Good (fun x => T_sp_l12Good x.1.1.1 x.1.1.2.1 x.1.1.2.2.1 x.1.1.2.2.2.1) (fun r => ((r, ()), ())) where
  at_ := func77
  name := by kernel_rfl
  body := by kernel_rfl
  res := by kernel_rfl
  ok := by kernel_rfl
  arity := fun _ => Nat.le_of_ble_eq_true (by kernel_rfl)
  pin := fun _ => by kernel_rfl
  chk := by kernel_rfl
  loops := o_sp_l12Good
  run := e_sp_l12Good
  F := fun _ => rfl
  emb := fun _ => rfl

theorem fd_sp_l12Good : FDok prog (77, D_sp_l12Good) := fn_ok mixed (env_ok (List.forall_mem_cons.2 ⟨fd_sp_l2Good, List.forall_mem_cons.2 ⟨fd_sp_l2Set, List.forall_mem_cons.2 ⟨fd_sp_l1In, fun _ h => absurd h List.not_mem_nil⟩⟩⟩)) tabOK ok_sp_l12Good

theorem e_sp_l1Own : ∀ x : D_sp_l1Own.T, ((acode E_sp_l1Own tt Z_sp_l1Own (orcOf O_sp_l1Own) C_sp_l1Own (entry A_sp_l1Own I_sp_l1Own x)).map (keepRet tt K_sp_l1Own)).ev = ((T_sp_l1Own x.1.1).map fun r => some (((((), ()), (r, ()))) : K_sp_l1Own.T)).ev := fun _ => by kernel_rfl

theorem o_sp_l1Own : LoopsOK E_sp_l1Own tt Z_sp_l1Own O_sp_l1Own C_sp_l1Own := by
  have h : loopsOf C_sp_l1Own = [] := by kernel_rfl
  unfold LoopsOK
  rw [h]
  exact fun _ h => absurd h List.not_mem_nil

theorem ok_sp_l1Own : FnOK prog E_sp_l1Own tt 140 D_sp_l1Own K_sp_l1Own Z_sp_l1Own O_sp_l1Own f140 C_sp_l1Own (fun x => T_sp_l1Own x.1.1) (fun r => (((), ()), (r, ()))) where
  at_ := func140
  name := by kernel_rfl
  body := by kernel_rfl
  res := by kernel_rfl
  ok := by kernel_rfl
  arity := fun _ => Nat.le_of_ble_eq_true (by kernel_rfl)
  pin := fun _ => by kernel_rfl
  chk := by kernel_rfl
  loops := o_sp_l1Own
  run := e_sp_l1Own
  F := fun _ => rfl
  emb := fun _ => rfl

theorem fd_sp_l1Own : FDok prog (140, D_sp_l1Own) := fn_ok mixed (env_ok (fun _ h => absurd h List.not_mem_nil)) tabOK ok_sp_l1Own

theorem e_sp_l12Own : ∀ x : D_sp_l12Own.T, ((acode E_sp_l12Own tt Z_sp_l12Own (orcOf O_sp_l12Own) C_sp_l12Own (entry A_sp_l12Own I_sp_l12Own x)).map (keepRet tt K_sp_l12Own)).ev = ((T_sp_l12Own x.1.1.1 x.1.1.2.1 x.1.1.2.2.1 x.1.1.2.2.2.1).map fun r => some ((((((), ((), ((), (r.1, ())))), ()), (r.2.1, (r.2.2.1, (r.2.2.2, ()))))) : K_sp_l12Own.T)).ev := fun _ => by kernel_rfl

noncomputable def B_sp_l12Own_0 : Code := ((loopsOf C_sp_l12Own).find? fun p => Nat.beq p.1 0).elim .skip (·.2)
theorem l_sp_l12Own_0 : (DL_sp_l12Own_0).OK E_sp_l12Own tt Z_sp_l12Own (orcOf O_sp_l12Own) B_sp_l12Own_0 where
  ok := by kernel_rfl
  oke := by kernel_rfl
  okr := by kernel_rfl
  eta := fun _ => rfl
  step := fun _ _ => by kernel_rfl

theorem o_sp_l12Own : LoopsOK E_sp_l12Own tt Z_sp_l12Own O_sp_l12Own C_sp_l12Own := by
  have h : loopsOf C_sp_l12Own = [(0, B_sp_l12Own_0)] := by kernel_rfl
  unfold LoopsOK
  rw [h]
  exact List.forall_mem_cons.2 ⟨fun d h => (by have e : some (DL_sp_l12Own_0) = some d := h; cases e; exact l_sp_l12Own_0), fun _ h => absurd h List.not_mem_nil⟩

theorem ok_sp_l12Own : FnOK prog E_sp_l12Own tt 78 D_sp_l12Own K_sp_l12Own Z_sp_l12Own O_sp_l12Own f78 C_sp_l12Own (fun x => T_sp_l12Own x.1.1.1 x.1.1.2.1 x.1.1.2.2.1 x.1.1.2.2.2.1) (fun r => ((((), ((), ((), (r.1, ())))), ()), (r.2.1, (r.2.2.1, (r.2.2.2, ()))))) where
  at_ := func78
  name := by kernel_rfl
  body := by kernel_rfl
  res := by kernel_rfl
  ok := by kernel_rfl
  arity := fun _ => Nat.le_of_ble_eq_true (by kernel_rfl)
  pin := fun _ => by kernel_rfl
  chk := by kernel_rfl
  loops := o_sp_l12Own
  run := e_sp_l12Own
  F := fun _ => rfl
  emb := fun _ => rfl

theorem fd_sp_l12Own : FDok prog (78, D_sp_l12Own) := fn_ok mixed (env_ok (List.forall_mem_cons.2 ⟨fd_sp_l1Own, fun _ h => absurd h List.not_mem_nil⟩)) tabOK ok_sp_l12Own

theorem e_sp_NewAtlas : ∀ x : D_sp_NewAtlas.T, ((acode E_sp_NewAtlas tt Z_sp_NewAtlas (orcOf O_sp_NewAtlas) C_sp_NewAtlas (entry A_sp_NewAtlas I_sp_NewAtlas x)).map (keepRet tt K_sp_NewAtlas)).ev = ((T_sp_NewAtlas x.1.1.1 x.1.1.2.1).map fun r => some ((((((), ((), ((), (r.1, ())))), (r.2.1, ())), (r.2.2.1, (r.2.2.2.1, (r.2.2.2.2, ()))))) : K_sp_NewAtlas.T)).ev := fun _ => by kernel_rfl

theorem o_sp_NewAtlas : LoopsOK E_sp_NewAtlas tt Z_sp_NewAtlas O_sp_NewAtlas C_sp_NewAtlas := by
  have h : loopsOf C_sp_NewAtlas = [] := by kernel_rfl
  unfold LoopsOK
  rw [h]
  exact fun _ h => absurd h List.not_mem_nil

theorem ok_sp_NewAtlas : FnOK prog E_sp_NewAtlas tt 23 D_sp_NewAtlas K_sp_NewAtlas Z_sp_NewAtlas O_sp_NewAtlas f23 C_sp_NewAtlas (fun x => T_sp_NewAtlas x.1.1.1 x.1.1.2.1) (fun r => ((((), ((), ((), (r.1, ())))), (r.2.1, ())), (r.2.2.1, (r.2.2.2.1, (r.2.2.2.2, ()))))) where
  at_ := func23
  name := by kernel_rfl
  body := by kernel_rfl
  res := by kernel_rfl
  ok := by kernel_rfl
  arity := fun _ => Nat.le_of_ble_eq_true (by kernel_rfl)
  pin := fun _ => by kernel_rfl
  chk := by kernel_rfl
  loops := o_sp_NewAtlas
  run := e_sp_NewAtlas
  F := fun _ => rfl
  emb := fun _ => rfl

theorem fd_sp_NewAtlas : FDok prog (23, D_sp_NewAtlas) := fn_ok mixed (env_ok (List.forall_mem_cons.2 ⟨fd_sp_l12Good, List.forall_mem_cons.2 ⟨fd_sp_l12Own, fun _ h => absurd h List.not_mem_nil⟩⟩)) tabOK ok_sp_NewAtlas

theorem e_slices_ContainsFunc_SSint_Sint : ∀ x : D_slices_ContainsFunc_SSint_Sint.T, ((acode E_slices_ContainsFunc_SSint_Sint tt Z_slices_ContainsFunc_SSint_Sint (orcOf O_slices_ContainsFunc_SSint_Sint) C_slices_ContainsFunc_SSint_Sint (entry A_slices_ContainsFunc_SSint_Sint I_slices_ContainsFunc_SSint_Sint x)).map (keepRet tt K_slices_ContainsFunc_SSint_Sint)).ev = ((T_slices_ContainsFunc_SSint_Sint x.1.1 x.1.2.1).map fun r => some ((((r, ()), ())) : K_slices_ContainsFunc_SSint_Sint.T)).ev := fun _ => by kernel_rfl

theorem o_slices_ContainsFunc_SSint_Sint : LoopsOK E_slices_ContainsFunc_SSint_Sint tt Z_slices_ContainsFunc_SSint_Sint O_slices_ContainsFunc_SSint_Sint C_slices_ContainsFunc_SSint_Sint := by
  have h : loopsOf C_slices_ContainsFunc_SSint_Sint = [] := by kernel_rfl
  unfold LoopsOK
  rw [h]
  exact fun _ h => absurd h List.not_mem_nil

theorem ok_slices_ContainsFunc_SSint_Sint : FnOK prog E_slices_ContainsFunc_SSint_Sint tt 141 D_slices_ContainsFunc_SSint_Sint K_slices_ContainsFunc_SSint_Sint Z_slices_ContainsFunc_SSint_Sint O_slices_ContainsFunc_SSint_Sint f141 C_slices_ContainsFunc_SSint_Sint (fun x => T_slices_ContainsFunc_SSint_Sint x.1.1 x.1.2.1) (fun r => ((r, ()), ())) where
  at_ := func141
  name := by kernel_rfl
  body := by kernel_rfl
  res := by kernel_rfl
  ok := by kernel_rfl
  arity := fun _ => Nat.le_of_ble_eq_true (by kernel_rfl)
  pin := fun _ => by kernel_rfl
  chk := by kernel_rfl
  loops := o_slices_ContainsFunc_SSint_Sint
  run := e_slices_ContainsFunc_SSint_Sint
  F := fun _ => rfl
  emb := fun _ => rfl

theorem fd_slices_ContainsFunc_SSint_Sint : FDok prog (141, D_slices_ContainsFunc_SSint_Sint) := fn_ok mixed (env_ok (List.forall_mem_cons.2 ⟨fd_slices_IndexFunc_SSint_Sint, fun _ h => absurd h List.not_mem_nil⟩)) tabOK ok_slices_ContainsFunc_SSint_Sint

theorem e_im_IsField_1 : ∀ x : D_im_IsField_1.T, ((acode E_im_IsField_1 tt Z_im_IsField_1 (orcOf O_im_IsField_1) C_im_IsField_1 (entry A_im_IsField_1 I_im_IsField_1 x)).map (keepRet tt K_im_IsField_1)).ev = ((T_im_IsField_1 x.1.1 x.1.2.1.1 x.1.2.1.2.1).map fun r => some ((((r, ()), ())) : K_im_IsField_1.T)).ev := fun _ => by kernel_rfl

theorem o_im_IsField_1 : LoopsOK E_im_IsField_1 tt Z_im_IsField_1 O_im_IsField_1 C_im_IsField_1 := by
  have h : loopsOf C_im_IsField_1 = [] := by kernel_rfl
  unfold LoopsOK
  rw [h]
  exact fun _ h => absurd h List.not_mem_nil

theorem ok_im_IsField_1 : FnOK prog E_im_IsField_1 tt 142 D_im_IsField_1 K_im_IsField_1 Z_im_IsField_1 O_im_IsField_1 f142 C_im_IsField_1 (fun x => T_im_IsField_1 x.1.1 x.1.2.1.1 x.1.2.1.2.1) (fun r => ((r, ()), ())) where
  at_ := func142
  name := by kernel_rfl
  body := by kernel_rfl
  res := by kernel_rfl
  ok := by kernel_rfl
  arity := fun _ => Nat.le_of_ble_eq_true (by kernel_rfl)
  pin := fun _ => by kernel_rfl
  chk := by kernel_rfl
  loops := o_im_IsField_1
  run := e_im_IsField_1
  F := fun _ => rfl
  emb := fun _ => rfl

theorem fd_im_IsField_1 : FDok prog (142, D_im_IsField_1) := fn_ok mixed (env_ok (List.forall_mem_cons.2 ⟨fd_im_areBetween, fun _ h => absurd h List.not_mem_nil⟩)) tabOK ok_im_IsField_1

theorem e_im_IsField : ∀ x : D_im_IsField.T, ((acode E_im_IsField tt Z_im_IsField (orcOf O_im_IsField) C_im_IsField (entry A_im_IsField I_im_IsField x)).map (keepRet tt K_im_IsField)).ev = ((T_im_IsField x.1.1.1 x.1.1.2.1).map fun r => some ((((r, ()), ())) : K_im_IsField.T)).ev := fun _ => by kernel_rfl

theorem o_im_IsField : LoopsOK E_im_IsField tt Z_im_IsField O_im_IsField C_im_IsField := by
  have h : loopsOf C_im_IsField = [] := by kernel_rfl
  unfold LoopsOK
  rw [h]
  exact fun _ h => absurd h List.not_mem_nil

theorem ok_im_IsField : FnOK prog E_im_IsField tt 79 D_im_IsField K_im_IsField Z_im_IsField O_im_IsField f79 C_im_IsField (fun x => T_im_IsField x.1.1.1 x.1.1.2.1) (fun r => ((r, ()), ())) where
  at_ := func79
  name := by kernel_rfl
  body := by kernel_rfl
  res := by kernel_rfl
  ok := by kernel_rfl
  arity := fun _ => Nat.le_of_ble_eq_true (by kernel_rfl)
  pin := fun _ => by kernel_rfl
  chk := by kernel_rfl
  loops := o_im_IsField
  run := e_im_IsField
  F := fun _ => rfl
  emb := fun _ => rfl

theorem fd_im_IsField : FDok prog (79, D_im_IsField) := fn_ok mixed (env_ok (List.forall_mem_cons.2 ⟨fd_im_between, List.forall_mem_cons.2 ⟨fd_im_areBetween, List.forall_mem_cons.2 ⟨fd_slices_ContainsFunc_SSint_Sint, List.forall_mem_cons.2 ⟨fd_im_IsField_1, fun _ h => absurd h List.not_mem_nil⟩⟩⟩⟩)) tabOK ok_im_IsField

theorem fd_slices_Clone_Sint_int : FDok prog (101, D_slices_Clone_Sint_int) := hand_clone

theorem e_im_copyLists : ∀ x : D_im_copyLists.T, ((acode E_im_copyLists tt Z_im_copyLists (orcOf O_im_copyLists) C_im_copyLists (entry A_im_copyLists I_im_copyLists x)).map (keepRet tt K_im_copyLists)).ev = ((T_im_copyLists x.1.1).map fun r => some (((((), ()), (r, ()))) : K_im_copyLists.T)).ev := fun _ => by kernel_rfl

noncomputable def B_im_copyLists_0 : Code := ((loopsOf C_im_copyLists).find? fun p => Nat.beq p.1 0).elim .skip (·.2)
theorem l_im_copyLists_0 : (DL_im_copyLists_0).OK E_im_copyLists tt Z_im_copyLists (orcOf O_im_copyLists) B_im_copyLists_0 where
  ok := by kernel_rfl
  oke := by kernel_rfl
  okr := by kernel_rfl
  eta := fun _ => rfl
  step := fun _ _ => by kernel_rfl

theorem o_im_copyLists : LoopsOK E_im_copyLists tt Z_im_copyLists O_im_copyLists C_im_copyLists := by
  have h : loopsOf C_im_copyLists = [(0, B_im_copyLists_0)] := by kernel_rfl
  unfold LoopsOK
  rw [h]
  exact List.forall_mem_cons.2 ⟨fun d h => (by have e : some (DL_im_copyLists_0) = some d := h; cases e; exact l_im_copyLists_0), fun _ h => absurd h List.not_mem_nil⟩

theorem ok_im_copyLists : FnOK prog E_im_copyLists tt 143 D_im_copyLists K_im_copyLists Z_im_copyLists O_im_copyLists f143 C_im_copyLists (fun x => T_im_copyLists x.1.1) (fun r => (((), ()), (r, ()))) where
  at_ := func143
  name := by kernel_rfl
  body := by kernel_rfl
  res := by kernel_rfl
  ok := by kernel_rfl
  arity := fun _ => Nat.le_of_ble_eq_true (by kernel_rfl)
  pin := fun _ => by kernel_rfl
  chk := by kernel_rfl
  loops := o_im_copyLists
  run := e_im_copyLists
  F := fun _ => rfl
  emb := fun _ => rfl

theorem fd_im_copyLists : FDok prog (143, D_im_copyLists) := fn_ok mixed (env_ok (List.forall_mem_cons.2 ⟨fd_slices_Clone_Sint_int, fun _ h => absurd h List.not_mem_nil⟩)) tabOK ok_im_copyLists

theorem e_im_Atlas_copied : ∀ x : D_im_Atlas_copied.T, ((acode E_im_Atlas_copied tt Z_im_Atlas_copied (orcOf O_im_Atlas_copied) C_im_Atlas_copied (entry A_im_Atlas_copied I_im_Atlas_copied x)).map (keepRet tt K_im_Atlas_copied)).ev = ((T_im_Atlas_copied x.1.1.1 x.1.1.2.1 x.1.1.2.2.1 x.1.1.2.2.2.1).map fun r => some ((((((), ((), ((), (r.1, ())))), ()), (r.2.1, (r.2.2.1, (r.2.2.2, ()))))) : K_im_Atlas_copied.T)).ev := fun _ => by kernel_rfl

theorem o_im_Atlas_copied : LoopsOK E_im_Atlas_copied tt Z_im_Atlas_copied O_im_Atlas_copied C_im_Atlas_copied := by
  have h : loopsOf C_im_Atlas_copied = [] := by kernel_rfl
  unfold LoopsOK
  rw [h]
  exact fun _ h => absurd h List.not_mem_nil

theorem ok_im_Atlas_copied : FnOK prog E_im_Atlas_copied tt 80 D_im_Atlas_copied K_im_Atlas_copied Z_im_Atlas_copied O_im_Atlas_copied f80 C_im_Atlas_copied (fun x => T_im_Atlas_copied x.1.1.1 x.1.1.2.1 x.1.1.2.2.1 x.1.1.2.2.2.1) (fun r => ((((), ((), ((), (r.1, ())))), ()), (r.2.1, (r.2.2.1, (r.2.2.2, ()))))) where
  at_ := func80
  name := by kernel_rfl
  body := by kernel_rfl
  res := by kernel_rfl
  ok := by kernel_rfl
  arity := fun _ => Nat.le_of_ble_eq_true (by kernel_rfl)
  pin := fun _ => by kernel_rfl
  chk := by kernel_rfl
  loops := o_im_Atlas_copied
  run := e_im_Atlas_copied
  F := fun _ => rfl
  emb := fun _ => rfl

theorem fd_im_Atlas_copied : FDok prog (80, D_im_Atlas_copied) := fn_ok mixed (env_ok (List.forall_mem_cons.2 ⟨fd_slices_Clone_Sint_int, List.forall_mem_cons.2 ⟨fd_im_copyLists, fun _ h => absurd h List.not_mem_nil⟩⟩)) tabOK ok_im_Atlas_copied

theorem e_im_NewAtlas : ∀ x : D_im_NewAtlas.T, ((acode E_im_NewAtlas tt Z_im_NewAtlas (orcOf O_im_NewAtlas) C_im_NewAtlas (entry A_im_NewAtlas I_im_NewAtlas x)).map (keepRet tt K_im_NewAtlas)).ev = ((T_im_NewAtlas x.1.1.1 x.1.1.2.1).map fun r => some ((((((), ((), ((), (r.1, ())))), (r.2.1, ())), (r.2.2.1, (r.2.2.2.1, (r.2.2.2.2, ()))))) : K_im_NewAtlas.T)).ev := fun _ => by kernel_rfl

theorem o_im_NewAtlas : LoopsOK E_im_NewAtlas tt Z_im_NewAtlas O_im_NewAtlas C_im_NewAtlas := by
  have h : loopsOf C_im_NewAtlas = [] := by kernel_rfl
  unfold LoopsOK
  rw [h]
  exact fun _ h => absurd h List.not_mem_nil

theorem ok_im_NewAtlas : FnOK prog E_im_NewAtlas tt 25 D_im_NewAtlas K_im_NewAtlas Z_im_NewAtlas O_im_NewAtlas f25 C_im_NewAtlas (fun x => T_im_NewAtlas x.1.1.1 x.1.1.2.1) (fun r => ((((), ((), ((), (r.1, ())))), (r.2.1, ())), (r.2.2.1, (r.2.2.2.1, (r.2.2.2.2, ()))))) where
  at_ := func25
  name := by kernel_rfl
  body := by kernel_rfl
  res := by kernel_rfl
  ok := by kernel_rfl
  arity := fun _ => Nat.le_of_ble_eq_true (by kernel_rfl)
  pin := fun _ => by kernel_rfl
  chk := by kernel_rfl
  loops := o_im_NewAtlas
  run := e_im_NewAtlas
  F := fun _ => rfl
  emb := fun _ => rfl

theorem fd_im_NewAtlas : FDok prog (25, D_im_NewAtlas) := fn_ok mixed (env_ok (List.forall_mem_cons.2 ⟨fd_im_IsField, List.forall_mem_cons.2 ⟨fd_im_Atlas_copied, fun _ h => absurd h List.not_mem_nil⟩⟩)) tabOK ok_im_NewAtlas

theorem e_lw_eqField : ∀ x : D_lw_eqField.T, ((acode E_lw_eqField tt Z_lw_eqField (orcOf O_lw_eqField) C_lw_eqField (entry A_lw_eqField I_lw_eqField x)).map (keepRet tt K_lw_eqField)).ev = ((T_lw_eqField x.1.1.1 x.1.1.2.1 x.1.2.1.1 x.1.2.1.2.1).map fun r => some ((((r, ()), ())) : K_lw_eqField.T)).ev := fun _ => by kernel_rfl

theorem o_lw_eqField : LoopsOK E_lw_eqField tt Z_lw_eqField O_lw_eqField C_lw_eqField := by
  have h : loopsOf C_lw_eqField = [] := by kernel_rfl
  unfold LoopsOK
  rw [h]
  exact fun _ h => absurd h List.not_mem_nil

theorem ok_lw_eqField : FnOK prog E_lw_eqField tt 27 D_lw_eqField K_lw_eqField Z_lw_eqField O_lw_eqField f27 C_lw_eqField (fun x => T_lw_eqField x.1.1.1 x.1.1.2.1 x.1.2.1.1 x.1.2.1.2.1) (fun r => ((r, ()), ())) where
  at_ := func27
  name := by kernel_rfl
  body := by kernel_rfl
  res := by kernel_rfl
  ok := by kernel_rfl
  arity := fun _ => Nat.le_of_ble_eq_true (by kernel_rfl)
  pin := fun _ => by kernel_rfl
  chk := by kernel_rfl
  loops := o_lw_eqField
  run := e_lw_eqField
  F := fun _ => rfl
  emb := fun _ => rfl

theorem fd_lw_eqField : FDok prog (27, D_lw_eqField) := fn_ok mixed (env_ok (List.forall_mem_cons.2 ⟨fd_lw_eqIntS, List.forall_mem_cons.2 ⟨fd_lw_eqIntSS, fun _ h => absurd h List.not_mem_nil⟩⟩)) tabOK ok_lw_eqField

theorem e_lw_eqAtlas : ∀ x : D_lw_eqAtlas.T, ((acode E_lw_eqAtlas tt Z_lw_eqAtlas (orcOf O_lw_eqAtlas) C_lw_eqAtlas (entry A_lw_eqAtlas I_lw_eqAtlas x)).map (keepRet tt K_lw_eqAtlas)).ev = ((T_lw_eqAtlas x.1.1.1 x.1.1.2.1 x.1.1.2.2.1 x.1.1.2.2.2.1 x.1.2.1.1 x.1.2.1.2.1 x.1.2.1.2.2.1 x.1.2.1.2.2.2.1).map fun r => some ((((r, ()), ())) : K_lw_eqAtlas.T)).ev := fun _ => by kernel_rfl

theorem o_lw_eqAtlas : LoopsOK E_lw_eqAtlas tt Z_lw_eqAtlas O_lw_eqAtlas C_lw_eqAtlas := by
  have h : loopsOf C_lw_eqAtlas = [] := by kernel_rfl
  unfold LoopsOK
  rw [h]
  exact fun _ h => absurd h List.not_mem_nil

theorem ok_lw_eqAtlas : FnOK prog E_lw_eqAtlas tt 26 D_lw_eqAtlas K_lw_eqAtlas Z_lw_eqAtlas O_lw_eqAtlas f26 C_lw_eqAtlas (fun x => T_lw_eqAtlas x.1.1.1 x.1.1.2.1 x.1.1.2.2.1 x.1.1.2.2.2.1 x.1.2.1.1 x.1.2.1.2.1 x.1.2.1.2.2.1 x.1.2.1.2.2.2.1) (fun r => ((r, ()), ())) where
  at_ := func26
  name := by kernel_rfl
  body := by kernel_rfl
  res := by kernel_rfl
  ok := by kernel_rfl
  arity := fun _ => Nat.le_of_ble_eq_true (by kernel_rfl)
  pin := fun _ => by kernel_rfl
  chk := by kernel_rfl
  loops := o_lw_eqAtlas
  run := e_lw_eqAtlas
  F := fun _ => rfl
  emb := fun _ => rfl

theorem fd_lw_eqAtlas : FDok prog (26, D_lw_eqAtlas) := fn_ok mixed (env_ok (List.forall_mem_cons.2 ⟨fd_lw_eqField, List.forall_mem_cons.2 ⟨fd_lw_eqIntS, fun _ h => absurd h List.not_mem_nil⟩⟩)) tabOK ok_lw_eqAtlas

theorem e_lw_markField : ∀ x : D_lw_markField.T, ((acode E_lw_markField tt Z_lw_markField (orcOf O_lw_markField) C_lw_markField (entry A_lw_markField I_lw_markField x)).map (keepRet tt K_lw_markField)).ev = ((T_lw_markField x.1.2.1 x.2.1 x.2.2.1).map fun r => some ((((r.1, ()), (r.2.1, (r.2.2, ())))) : K_lw_markField.T)).ev := fun _ => by kernel_rfl

theorem o_lw_markField : LoopsOK E_lw_markField tt Z_lw_markField O_lw_markField C_lw_markField := by
  have h : loopsOf C_lw_markField = [] := by kernel_rfl
  unfold LoopsOK
  rw [h]
  exact fun _ h => absurd h List.not_mem_nil

theorem ok_lw_markField : FnOK prog E_lw_markField tt 28 D_lw_markField K_lw_markField Z_lw_markField O_lw_markField f28 C_lw_markField (fun x => T_lw_markField x.1.2.1 x.2.1 x.2.2.1) (fun r => ((r.1, ()), (r.2.1, (r.2.2, ())))) where
  at_ := func28
  name := by kernel_rfl
  body := by kernel_rfl
  res := by kernel_rfl
  ok := by kernel_rfl
  arity := fun _ => Nat.le_of_ble_eq_true (by kernel_rfl)
  pin := fun _ => by kernel_rfl
  chk := by kernel_rfl
  loops := o_lw_markField
  run := e_lw_markField
  F := fun _ => rfl
  emb := fun _ => rfl

theorem fd_lw_markField : FDok prog (28, D_lw_markField) := fn_ok mixed (env_ok (List.forall_mem_cons.2 ⟨fd_lw_markIntS, List.forall_mem_cons.2 ⟨fd_lw_markIntSS, fun _ h => absurd h List.not_mem_nil⟩⟩)) tabOK ok_lw_markField

theorem e_lw_markAtlas : ∀ x : D_lw_markAtlas.T, ((acode E_lw_markAtlas tt Z_lw_markAtlas (orcOf O_lw_markAtlas) C_lw_markAtlas (entry A_lw_markAtlas I_lw_markAtlas x)).map (keepRet tt K_lw_markAtlas)).ev = ((T_lw_markAtlas x.1.1.2.2.2.1 x.1.2.1 x.2.1 x.2.2.1 x.2.2.2.1).map fun r => some ((((r.1, ()), (r.2.1, (r.2.2.1, (r.2.2.2, ()))))) : K_lw_markAtlas.T)).ev := fun _ => by kernel_rfl

theorem o_lw_markAtlas : LoopsOK E_lw_markAtlas tt Z_lw_markAtlas O_lw_markAtlas C_lw_markAtlas := by
  have h : loopsOf C_lw_markAtlas = [] := by kernel_rfl
  unfold LoopsOK
  rw [h]
  exact fun _ h => absurd h List.not_mem_nil

theorem ok_lw_markAtlas : FnOK prog E_lw_markAtlas tt 29 D_lw_markAtlas K_lw_markAtlas Z_lw_markAtlas O_lw_markAtlas f29 C_lw_markAtlas (fun x => T_lw_markAtlas x.1.1.2.2.2.1 x.1.2.1 x.2.1 x.2.2.1 x.2.2.2.1) (fun r => ((r.1, ()), (r.2.1, (r.2.2.1, (r.2.2.2, ()))))) where
  at_ := func29
  name := by kernel_rfl
  body := by kernel_rfl
  res := by kernel_rfl
  ok := by kernel_rfl
  arity := fun _ => Nat.le_of_ble_eq_true (by kernel_rfl)
  pin := fun _ => by kernel_rfl
  chk := by kernel_rfl
  loops := o_lw_markAtlas
  run := e_lw_markAtlas
  F := fun _ => rfl
  emb := fun _ => rfl

theorem fd_lw_markAtlas : FDok prog (29, D_lw_markAtlas) := fn_ok mixed (env_ok (List.forall_mem_cons.2 ⟨fd_lw_markField, List.forall_mem_cons.2 ⟨fd_lw_markIntS, fun _ h => absurd h List.not_mem_nil⟩⟩)) tabOK ok_lw_markAtlas

theorem e_lw_heldField : ∀ x : D_lw_heldField.T, ((acode E_lw_heldField tt Z_lw_heldField (orcOf O_lw_heldField) C_lw_heldField (entry A_lw_heldField I_lw_heldField x)).map (keepRet tt K_lw_heldField)).ev = ((T_lw_heldField x.1.1.1 x.1.1.2.1 x.1.2.1).map fun r => some ((((r, ()), ())) : K_lw_heldField.T)).ev := fun _ => by kernel_rfl

theorem o_lw_heldField : LoopsOK E_lw_heldField tt Z_lw_heldField O_lw_heldField C_lw_heldField := by
  have h : loopsOf C_lw_heldField = [] := by kernel_rfl
  unfold LoopsOK
  rw [h]
  exact fun _ h => absurd h List.not_mem_nil

theorem ok_lw_heldField : FnOK prog E_lw_heldField tt 81 D_lw_heldField K_lw_heldField Z_lw_heldField O_lw_heldField f81 C_lw_heldField (fun x => T_lw_heldField x.1.1.1 x.1.1.2.1 x.1.2.1) (fun r => ((r, ()), ())) where
  at_ := func81
  name := by kernel_rfl
  body := by kernel_rfl
  res := by kernel_rfl
  ok := by kernel_rfl
  arity := fun _ => Nat.le_of_ble_eq_true (by kernel_rfl)
  pin := fun _ => by kernel_rfl
  chk := by kernel_rfl
  loops := o_lw_heldField
  run := e_lw_heldField
  F := fun _ => rfl
  emb := fun _ => rfl

theorem fd_lw_heldField : FDok prog (81, D_lw_heldField) := fn_ok mixed (env_ok (List.forall_mem_cons.2 ⟨fd_lw_heldIntS, List.forall_mem_cons.2 ⟨fd_lw_heldIntSS, fun _ h => absurd h List.not_mem_nil⟩⟩)) tabOK ok_lw_heldField

theorem e_lw_heldAtlas : ∀ x : D_lw_heldAtlas.T, ((acode E_lw_heldAtlas tt Z_lw_heldAtlas (orcOf O_lw_heldAtlas) C_lw_heldAtlas (entry A_lw_heldAtlas I_lw_heldAtlas x)).map (keepRet tt K_lw_heldAtlas)).ev = ((T_lw_heldAtlas x.1.1.1 x.1.1.2.1 x.1.1.2.2.1 x.1.1.2.2.2.1 x.1.2.1).map fun r => some ((((r, ()), ())) : K_lw_heldAtlas.T)).ev := fun _ => by kernel_rfl

theorem o_lw_heldAtlas : LoopsOK E_lw_heldAtlas tt Z_lw_heldAtlas O_lw_heldAtlas C_lw_heldAtlas := by
  have h : loopsOf C_lw_heldAtlas = [] := by kernel_rfl
  unfold LoopsOK
  rw [h]
  exact fun _ h => absurd h List.not_mem_nil

theorem ok_lw_heldAtlas : FnOK prog E_lw_heldAtlas tt 30 D_lw_heldAtlas K_lw_heldAtlas Z_lw_heldAtlas O_lw_heldAtlas f30 C_lw_heldAtlas (fun x => T_lw_heldAtlas x.1.1.1 x.1.1.2.1 x.1.1.2.2.1 x.1.1.2.2.2.1 x.1.2.1) (fun r => ((r, ()), ())) where
  at_ := func30
  name := by kernel_rfl
  body := by kernel_rfl
  res := by kernel_rfl
  ok := by kernel_rfl
  arity := fun _ => Nat.le_of_ble_eq_true (by kernel_rfl)
  pin := fun _ => by kernel_rfl
  chk := by kernel_rfl
  loops := o_lw_heldAtlas
  run := e_lw_heldAtlas
  F := fun _ => rfl
  emb := fun _ => rfl

theorem fd_lw_heldAtlas : FDok prog (30, D_lw_heldAtlas) := fn_ok mixed (env_ok (List.forall_mem_cons.2 ⟨fd_lw_heldField, List.forall_mem_cons.2 ⟨fd_lw_heldIntS, fun _ h => absurd h List.not_mem_nil⟩⟩)) tabOK ok_lw_heldAtlas

theorem e_lw_FnExactNewAtlas : ∀ x : D_lw_FnExactNewAtlas.T, ((acode E_lw_FnExactNewAtlas tt Z_lw_FnExactNewAtlas (orcOf O_lw_FnExactNewAtlas) C_lw_FnExactNewAtlas (entry A_lw_FnExactNewAtlas I_lw_FnExactNewAtlas x)).map (keepRet tt K_lw_FnExactNewAtlas)).ev = ((T_lw_FnExactNewAtlas x.1.1.1 x.1.1.2.1).map fun r => some ((((r, ()), ())) : K_lw_FnExactNewAtlas.T)).ev := fun _ => by kernel_rfl

theorem o_lw_FnExactNewAtlas : LoopsOK E_lw_FnExactNewAtlas tt Z_lw_FnExactNewAtlas O_lw_FnExactNewAtlas C_lw_FnExactNewAtlas := by
  have h : loopsOf C_lw_FnExactNewAtlas = [] := by kernel_rfl
  unfold LoopsOK
  rw [h]
  exact fun _ h => absurd h List.not_mem_nil

theorem ok_lw_FnExactNewAtlas : FnOK prog E_lw_FnExactNewAtlas tt 4 D_lw_FnExactNewAtlas K_lw_FnExactNewAtlas Z_lw_FnExactNewAtlas O_lw_FnExactNewAtlas f4 C_lw_FnExactNewAtlas (fun x => T_lw_FnExactNewAtlas x.1.1.1 x.1.1.2.1) (fun r => ((r, ()), ())) where
  at_ := func4
  name := by kernel_rfl
  body := by kernel_rfl
  res := by kernel_rfl
  ok := by kernel_rfl
  arity := fun _ => Nat.le_of_ble_eq_true (by kernel_rfl)
  pin := fun _ => by kernel_rfl
  chk := by kernel_rfl
  loops := o_lw_FnExactNewAtlas
  run := e_lw_FnExactNewAtlas
  F := fun _ => rfl
  emb := fun _ => rfl

theorem fd_lw_FnExactNewAtlas : FDok prog (4, D_lw_FnExactNewAtlas) := fn_ok mixed (env_ok (List.forall_mem_cons.2 ⟨fd_lw_szField, List.forall_mem_cons.2 ⟨fd_lw_toField, List.forall_mem_cons.2 ⟨fd_sp_NewAtlas, List.forall_mem_cons.2 ⟨fd_im_NewAtlas, List.forall_mem_cons.2 ⟨fd_lw_eqAtlas, List.forall_mem_cons.2 ⟨fd_lw_eqField, List.forall_mem_cons.2 ⟨fd_lw_markField, List.forall_mem_cons.2 ⟨fd_lw_markAtlas, List.forall_mem_cons.2 ⟨fd_lw_heldAtlas, fun _ h => absurd h List.not_mem_nil⟩⟩⟩⟩⟩⟩⟩⟩⟩)) tabOK ok_lw_FnExactNewAtlas

theorem e_lw_szAtlas : ∀ x : D_lw_szAtlas.T, ((acode E_lw_szAtlas tt Z_lw_szAtlas (orcOf O_lw_szAtlas) C_lw_szAtlas (entry A_lw_szAtlas I_lw_szAtlas x)).map (keepRet tt K_lw_szAtlas)).ev = ((T_lw_szAtlas x.1.1.1 x.1.1.2.1 x.1.1.2.2.1 x.1.1.2.2.2.1 x.1.2.1).map fun r => some ((((r, ()), ())) : K_lw_szAtlas.T)).ev := fun _ => by kernel_rfl

theorem o_lw_szAtlas : LoopsOK E_lw_szAtlas tt Z_lw_szAtlas O_lw_szAtlas C_lw_szAtlas := by
  have h : loopsOf C_lw_szAtlas = [] := by kernel_rfl
  unfold LoopsOK
  rw [h]
  exact fun _ h => absurd h List.not_mem_nil

theorem ok_lw_szAtlas : FnOK prog E_lw_szAtlas tt 31 D_lw_szAtlas K_lw_szAtlas Z_lw_szAtlas O_lw_szAtlas f31 C_lw_szAtlas (fun x => T_lw_szAtlas x.1.1.1 x.1.1.2.1 x.1.1.2.2.1 x.1.1.2.2.2.1 x.1.2.1) (fun r => ((r, ()), ())) where
  at_ := func31
  name := by kernel_rfl
  body := by kernel_rfl
  res := by kernel_rfl
  ok := by kernel_rfl
  arity := fun _ => Nat.le_of_ble_eq_true (by kernel_rfl)
  pin := fun _ => by kernel_rfl
  chk := by kernel_rfl
  loops := o_lw_szAtlas
  run := e_lw_szAtlas
  F := fun _ => rfl
  emb := fun _ => rfl

theorem fd_lw_szAtlas : FDok prog (31, D_lw_szAtlas) := fn_ok mixed (env_ok (List.forall_mem_cons.2 ⟨fd_lw_szField, List.forall_mem_cons.2 ⟨fd_lw_szIntS, fun _ h => absurd h List.not_mem_nil⟩⟩)) tabOK ok_lw_szAtlas

theorem e_lw_toAtlas : ∀ x : D_lw_toAtlas.T, ((acode E_lw_toAtlas tt Z_lw_toAtlas (orcOf O_lw_toAtlas) C_lw_toAtlas (entry A_lw_toAtlas I_lw_toAtlas x)).map (keepRet tt K_lw_toAtlas)).ev = ((T_lw_toAtlas x.1.1.1 x.1.1.2.1 x.1.1.2.2.1 x.1.1.2.2.2.1).map fun r => some ((((((), ((), ((), (r.1, ())))), ()), (r.2.1, (r.2.2.1, (r.2.2.2, ()))))) : K_lw_toAtlas.T)).ev := fun _ => by kernel_rfl

theorem o_lw_toAtlas : LoopsOK E_lw_toAtlas tt Z_lw_toAtlas O_lw_toAtlas C_lw_toAtlas := by
  have h : loopsOf C_lw_toAtlas = [] := by kernel_rfl
  unfold LoopsOK
  rw [h]
  exact fun _ h => absurd h List.not_mem_nil

theorem ok_lw_toAtlas : FnOK prog E_lw_toAtlas tt 33 D_lw_toAtlas K_lw_toAtlas Z_lw_toAtlas O_lw_toAtlas f33 C_lw_toAtlas (fun x => T_lw_toAtlas x.1.1.1 x.1.1.2.1 x.1.1.2.2.1 x.1.1.2.2.2.1) (fun r => ((((), ((), ((), (r.1, ())))), ()), (r.2.1, (r.2.2.1, (r.2.2.2, ()))))) where
  at_ := func33
  name := by kernel_rfl
  body := by kernel_rfl
  res := by kernel_rfl
  ok := by kernel_rfl
  arity := fun _ => Nat.le_of_ble_eq_true (by kernel_rfl)
  pin := fun _ => by kernel_rfl
  chk := by kernel_rfl
  loops := o_lw_toAtlas
  run := e_lw_toAtlas
  F := fun _ => rfl
  emb := fun _ => rfl

theorem fd_lw_toAtlas : FDok prog (33, D_lw_toAtlas) := fn_ok mixed (env_ok (List.forall_mem_cons.2 ⟨fd_lw_toField, List.forall_mem_cons.2 ⟨fd_lw_toIntS, fun _ h => absurd h List.not_mem_nil⟩⟩)) tabOK ok_lw_toAtlas

theorem e_sp_NewConsole : ∀ x : D_sp_NewConsole.T, ((acode E_sp_NewConsole tt Z_sp_NewConsole (orcOf O_sp_NewConsole) C_sp_NewConsole (entry A_sp_NewConsole I_sp_NewConsole x)).map (keepRet tt K_sp_NewConsole)).ev = ((T_sp_NewConsole x.1.1.1 x.1.1.2.1 x.1.1.2.2.1 x.1.1.2.2.2.1).map fun r => some ((((((), ((), ((), (r.1, (r.2.1, (r.2.2.1, (r.2.2.2.1, ()))))))), (r.2.2.2.2.1, ())), (r.2.2.2.2.2.1, (r.2.2.2.2.2.2.1, (r.2.2.2.2.2.2.2, ()))))) : K_sp_NewConsole.T)).ev := fun _ => by kernel_rfl

theorem o_sp_NewConsole : LoopsOK E_sp_NewConsole tt Z_sp_NewConsole O_sp_NewConsole C_sp_NewConsole := by
  have h : loopsOf C_sp_NewConsole = [] := by kernel_rfl
  unfold LoopsOK
  rw [h]
  exact fun _ h => absurd h List.not_mem_nil

theorem ok_sp_NewConsole : FnOK prog E_sp_NewConsole tt 39 D_sp_NewConsole K_sp_NewConsole Z_sp_NewConsole O_sp_NewConsole f39 C_sp_NewConsole (fun x => T_sp_NewConsole x.1.1.1 x.1.1.2.1 x.1.1.2.2.1 x.1.1.2.2.2.1) (fun r => ((((), ((), ((), (r.1, (r.2.1, (r.2.2.1, (r.2.2.2.1, ()))))))), (r.2.2.2.2.1, ())), (r.2.2.2.2.2.1, (r.2.2.2.2.2.2.1, (r.2.2.2.2.2.2.2, ()))))) where
  at_ := func39
  name := by kernel_rfl
  body := by kernel_rfl
  res := by kernel_rfl
  ok := by kernel_rfl
  arity := fun _ => Nat.le_of_ble_eq_true (by kernel_rfl)
  pin := fun _ => by kernel_rfl
  chk := by kernel_rfl
  loops := o_sp_NewConsole
  run := e_sp_NewConsole
  F := fun _ => rfl
  emb := fun _ => rfl

theorem fd_sp_NewConsole : FDok prog (39, D_sp_NewConsole) := fn_ok mixed (env_ok (List.forall_mem_cons.2 ⟨fd_sp_l12Good, List.forall_mem_cons.2 ⟨fd_sp_l12Own, fun _ h => absurd h List.not_mem_nil⟩⟩)) tabOK ok_sp_NewConsole

theorem e_im_isRising : ∀ x : D_im_isRising.T, ((acode E_im_isRising tt Z_im_isRising (orcOf O_im_isRising) C_im_isRising (entry A_im_isRising I_im_isRising x)).map (keepRet tt K_im_isRising)).ev = ((T_im_isRising x.1.1 x.1.2.1).map fun r => some ((((r, ()), ())) : K_im_isRising.T)).ev := fun _ => by kernel_rfl

noncomputable def B_im_isRising_0 : Code := ((loopsOf C_im_isRising).find? fun p => Nat.beq p.1 0).elim .skip (·.2)
theorem l_im_isRising_0 : (DL_im_isRising_0).OK E_im_isRising tt Z_im_isRising (orcOf O_im_isRising) B_im_isRising_0 where
  ok := by kernel_rfl
  oke := by kernel_rfl
  okr := by kernel_rfl
  eta := fun _ => rfl
  step := fun _ _ => by kernel_rfl

theorem o_im_isRising : LoopsOK E_im_isRising tt Z_im_isRising O_im_isRising C_im_isRising := by
  have h : loopsOf C_im_isRising = [(0, B_im_isRising_0)] := by kernel_rfl
  unfold LoopsOK
  rw [h]
  exact List.forall_mem_cons.2 ⟨fun d h => (by have e : some (DL_im_isRising_0) = some d := h; cases e; exact l_im_isRising_0), fun _ h => absurd h List.not_mem_nil⟩

theorem ok_im_isRising : FnOK prog E_im_isRising tt 146 D_im_isRising K_im_isRising Z_im_isRising O_im_isRising f146 C_im_isRising (fun x => T_im_isRising x.1.1 x.1.2.1) (fun r => ((r, ()), ())) where
  at_ := func146
  name := by kernel_rfl
  body := by kernel_rfl
  res := by kernel_rfl
  ok := by kernel_rfl
  arity := fun _ => Nat.le_of_ble_eq_true (by kernel_rfl)
  pin := fun _ => by kernel_rfl
  chk := by kernel_rfl
  loops := o_im_isRising
  run := e_im_isRising
  F := fun _ => rfl
  emb := fun _ => rfl

theorem fd_im_isRising : FDok prog (146, D_im_isRising) := fn_ok mixed (env_ok (List.forall_mem_cons.2 ⟨fd_im_between, fun _ h => absurd h List.not_mem_nil⟩)) tabOK ok_im_isRising

theorem e_im_IsAtlas : ∀ x : D_im_IsAtlas.T, ((acode E_im_IsAtlas tt Z_im_IsAtlas (orcOf O_im_IsAtlas) C_im_IsAtlas (entry A_im_IsAtlas I_im_IsAtlas x)).map (keepRet tt K_im_IsAtlas)).ev = ((T_im_IsAtlas x.1.1.1 x.1.1.2.1 x.1.1.2.2.1 x.1.1.2.2.2.1).map fun r => some ((((r, ()), ())) : K_im_IsAtlas.T)).ev := fun _ => by kernel_rfl

theorem o_im_IsAtlas : LoopsOK E_im_IsAtlas tt Z_im_IsAtlas O_im_IsAtlas C_im_IsAtlas := by
  have h : loopsOf C_im_IsAtlas = [] := by kernel_rfl
  unfold LoopsOK
  rw [h]
  exact fun _ h => absurd h List.not_mem_nil

theorem ok_im_IsAtlas : FnOK prog E_im_IsAtlas tt 83 D_im_IsAtlas K_im_IsAtlas Z_im_IsAtlas O_im_IsAtlas f83 C_im_IsAtlas (fun x => T_im_IsAtlas x.1.1.1 x.1.1.2.1 x.1.1.2.2.1 x.1.1.2.2.2.1) (fun r => ((r, ()), ())) where
  at_ := func83
  name := by kernel_rfl
  body := by kernel_rfl
  res := by kernel_rfl
  ok := by kernel_rfl
  arity := fun _ => Nat.le_of_ble_eq_true (by kernel_rfl)
  pin := fun _ => by kernel_rfl
  chk := by kernel_rfl
  loops := o_im_IsAtlas
  run := e_im_IsAtlas
  F := fun _ => rfl
  emb := fun _ => rfl

theorem fd_im_IsAtlas : FDok prog (83, D_im_IsAtlas) := fn_ok mixed (env_ok (List.forall_mem_cons.2 ⟨fd_im_IsField, List.forall_mem_cons.2 ⟨fd_im_isRising, List.forall_mem_cons.2 ⟨fd_im_between, fun _ h => absurd h List.not_mem_nil⟩⟩⟩)) tabOK ok_im_IsAtlas

theorem e_im_NewConsole : ∀ x : D_im_NewConsole.T, ((acode E_im_NewConsole tt Z_im_NewConsole (orcOf O_im_NewConsole) C_im_NewConsole (entry A_im_NewConsole I_im_NewConsole x)).map (keepRet tt K_im_NewConsole)).ev = ((T_im_NewConsole x.1.1.1 x.1.1.2.1 x.1.1.2.2.1 x.1.1.2.2.2.1).map fun r => some ((((((), ((), ((), (r.1, (r.2.1, (r.2.2.1, (r.2.2.2.1, ()))))))), (r.2.2.2.2.1, ())), (r.2.2.2.2.2.1, (r.2.2.2.2.2.2.1, (r.2.2.2.2.2.2.2, ()))))) : K_im_NewConsole.T)).ev := fun _ => by kernel_rfl

theorem o_im_NewConsole : LoopsOK E_im_NewConsole tt Z_im_NewConsole O_im_NewConsole C_im_NewConsole := by
  have h : loopsOf C_im_NewConsole = [] := by kernel_rfl
  unfold LoopsOK
  rw [h]
  exact fun _ h => absurd h List.not_mem_nil

theorem ok_im_NewConsole : FnOK prog E_im_NewConsole tt 40 D_im_NewConsole K_im_NewConsole Z_im_NewConsole O_im_NewConsole f40 C_im_NewConsole (fun x => T_im_NewConsole x.1.1.1 x.1.1.2.1 x.1.1.2.2.1 x.1.1.2.2.2.1) (fun r => ((((), ((), ((), (r.1, (r.2.1, (r.2.2.1, (r.2.2.2.1, ()))))))), (r.2.2.2.2.1, ())), (r.2.2.2.2.2.1, (r.2.2.2.2.2.2.1, (r.2.2.2.2.2.2.2, ()))))) where
  at_ := func40
  name := by kernel_rfl
  body := by kernel_rfl
  res := by kernel_rfl
  ok := by kernel_rfl
  arity := fun _ => Nat.le_of_ble_eq_true (by kernel_rfl)
  pin := fun _ => by kernel_rfl
  chk := by kernel_rfl
  loops := o_im_NewConsole
  run := e_im_NewConsole
  F := fun _ => rfl
  emb := fun _ => rfl

theorem fd_im_NewConsole : FDok prog (40, D_im_NewConsole) := fn_ok mixed (env_ok (List.forall_mem_cons.2 ⟨fd_im_IsAtlas, List.forall_mem_cons.2 ⟨fd_im_Atlas_copied, fun _ h => absurd h List.not_mem_nil⟩⟩)) tabOK ok_im_NewConsole

theorem e_lw_eqLog : ∀ x : D_lw_eqLog.T, ((acode E_lw_eqLog tt Z_lw_eqLog (orcOf O_lw_eqLog) C_lw_eqLog (entry A_lw_eqLog I_lw_eqLog x)).map (keepRet tt K_lw_eqLog)).ev = ((T_lw_eqLog x.1.1.1 x.1.1.2.1 x.1.1.2.2.1 x.1.2.1.1 x.1.2.1.2.1 x.1.2.1.2.2.1).map fun r => some ((((r, ()), ())) : K_lw_eqLog.T)).ev := fun _ => by kernel_rfl

theorem o_lw_eqLog : LoopsOK E_lw_eqLog tt Z_lw_eqLog O_lw_eqLog C_lw_eqLog := by
  have h : loopsOf C_lw_eqLog = [] := by kernel_rfl
  unfold LoopsOK
  rw [h]
  exact fun _ h => absurd h List.not_mem_nil

theorem ok_lw_eqLog : FnOK prog E_lw_eqLog tt 91 D_lw_eqLog K_lw_eqLog Z_lw_eqLog O_lw_eqLog f91 C_lw_eqLog (fun x => T_lw_eqLog x.1.1.1 x.1.1.2.1 x.1.1.2.2.1 x.1.2.1.1 x.1.2.1.2.1 x.1.2.1.2.2.1) (fun r => ((r, ()), ())) where
  at_ := func91
  name := by kernel_rfl
  body := by kernel_rfl
  res := by kernel_rfl
  ok := by kernel_rfl
  arity := fun _ => Nat.le_of_ble_eq_true (by kernel_rfl)
  pin := fun _ => by kernel_rfl
  chk := by kernel_rfl
  loops := o_lw_eqLog
  run := e_lw_eqLog
  F := fun _ => rfl
  emb := fun _ => rfl

theorem fd_lw_eqLog : FDok prog (91, D_lw_eqLog) := fn_ok mixed (env_ok (fun _ h => absurd h List.not_mem_nil)) tabOK ok_lw_eqLog

theorem e_lw_eqConsole : ∀ x : D_lw_eqConsole.T, ((acode E_lw_eqConsole tt Z_lw_eqConsole (orcOf O_lw_eqConsole) C_lw_eqConsole (entry A_lw_eqConsole I_lw_eqConsole x)).map (keepRet tt K_lw_eqConsole)).ev = ((T_lw_eqConsole x.1.1.1 x.1.1.2.1 x.1.1.2.2.1 x.1.1.2.2.2.1 x.1.1.2.2.2.2.1 x.1.1.2.2.2.2.2.1 x.1.1.2.2.2.2.2.2.1 x.1.2.1.1 x.1.2.1.2.1 x.1.2.1.2.2.1 x.1.2.1.2.2.2.1 x.1.2.1.2.2.2.2.1 x.1.2.1.2.2.2.2.2.1 x.1.2.1.2.2.2.2.2.2.1).map fun r => some ((((r, ()), ())) : K_lw_eqConsole.T)).ev := fun _ => by kernel_rfl

theorem o_lw_eqConsole : LoopsOK E_lw_eqConsole tt Z_lw_eqConsole O_lw_eqConsole C_lw_eqConsole := by
  have h : loopsOf C_lw_eqConsole = [] := by kernel_rfl
  unfold LoopsOK
  rw [h]
  exact fun _ h => absurd h List.not_mem_nil

theorem ok_lw_eqConsole : FnOK prog E_lw_eqConsole tt 41 D_lw_eqConsole K_lw_eqConsole Z_lw_eqConsole O_lw_eqConsole f41 C_lw_eqConsole (fun x => T_lw_eqConsole x.1.1.1 x.1.1.2.1 x.1.1.2.2.1 x.1.1.2.2.2.1 x.1.1.2.2.2.2.1 x.1.1.2.2.2.2.2.1 x.1.1.2.2.2.2.2.2.1 x.1.2.1.1 x.1.2.1.2.1 x.1.2.1.2.2.1 x.1.2.1.2.2.2.1 x.1.2.1.2.2.2.2.1 x.1.2.1.2.2.2.2.2.1 x.1.2.1.2.2.2.2.2.2.1) (fun r => ((r, ()), ())) where
  at_ := func41
  name := by kernel_rfl
  body := by kernel_rfl
  res := by kernel_rfl
  ok := by kernel_rfl
  arity := fun _ => Nat.le_of_ble_eq_true (by kernel_rfl)
  pin := fun _ => by kernel_rfl
  chk := by kernel_rfl
  loops := o_lw_eqConsole
  run := e_lw_eqConsole
  F := fun _ => rfl
  emb := fun _ => rfl

theorem fd_lw_eqConsole : FDok prog (41, D_lw_eqConsole) := fn_ok mixed (env_ok (List.forall_mem_cons.2 ⟨fd_lw_eqAtlas, List.forall_mem_cons.2 ⟨fd_lw_eqLog, fun _ h => absurd h List.not_mem_nil⟩⟩)) tabOK ok_lw_eqConsole

theorem e_lw_markConsole : ∀ x : D_lw_markConsole.T, ((acode E_lw_markConsole tt Z_lw_markConsole (orcOf O_lw_markConsole) C_lw_markConsole (entry A_lw_markConsole I_lw_markConsole x)).map (keepRet tt K_lw_markConsole)).ev = ((T_lw_markConsole x.1.1.2.2.2.1 x.1.1.2.2.2.2.1 x.1.1.2.2.2.2.2.1 x.1.1.2.2.2.2.2.2.1 x.1.2.1 x.2.1 x.2.2.1 x.2.2.2.1).map fun r => some ((((r.1, ()), (r.2.1, (r.2.2.1, (r.2.2.2, ()))))) : K_lw_markConsole.T)).ev := fun _ => by kernel_rfl

theorem o_lw_markConsole : LoopsOK E_lw_markConsole tt Z_lw_markConsole O_lw_markConsole C_lw_markConsole := by
  have h : loopsOf C_lw_markConsole = [] := by kernel_rfl
  unfold LoopsOK
  rw [h]
  exact fun _ h => absurd h List.not_mem_nil

theorem ok_lw_markConsole : FnOK prog E_lw_markConsole tt 42 D_lw_markConsole K_lw_markConsole Z_lw_markConsole O_lw_markConsole f42 C_lw_markConsole (fun x => T_lw_markConsole x.1.1.2.2.2.1 x.1.1.2.2.2.2.1 x.1.1.2.2.2.2.2.1 x.1.1.2.2.2.2.2.2.1 x.1.2.1 x.2.1 x.2.2.1 x.2.2.2.1) (fun r => ((r.1, ()), (r.2.1, (r.2.2.1, (r.2.2.2, ()))))) where
  at_ := func42
  name := by kernel_rfl
  body := by kernel_rfl
  res := by kernel_rfl
  ok := by kernel_rfl
  arity := fun _ => Nat.le_of_ble_eq_true (by kernel_rfl)
  pin := fun _ => by kernel_rfl
  chk := by kernel_rfl
  loops := o_lw_markConsole
  run := e_lw_markConsole
  F := fun _ => rfl
  emb := fun _ => rfl

theorem fd_lw_markConsole : FDok prog (42, D_lw_markConsole) := fn_ok mixed (env_ok (List.forall_mem_cons.2 ⟨fd_lw_markAtlas, fun _ h => absurd h List.not_mem_nil⟩)) tabOK ok_lw_markConsole

theorem e_lw_heldConsole : ∀ x : D_lw_heldConsole.T, ((acode E_lw_heldConsole tt Z_lw_heldConsole (orcOf O_lw_heldConsole) C_lw_heldConsole (entry A_lw_heldConsole I_lw_heldConsole x)).map (keepRet tt K_lw_heldConsole)).ev = ((T_lw_heldConsole x.1.1.1 x.1.1.2.1 x.1.1.2.2.1 x.1.1.2.2.2.1 x.1.1.2.2.2.2.1 x.1.1.2.2.2.2.2.1 x.1.1.2.2.2.2.2.2.1 x.1.2.1).map fun r => some ((((r, ()), ())) : K_lw_heldConsole.T)).ev := fun _ => by kernel_rfl

theorem o_lw_heldConsole : LoopsOK E_lw_heldConsole tt Z_lw_heldConsole O_lw_heldConsole C_lw_heldConsole := by
  have h : loopsOf C_lw_heldConsole = [] := by kernel_rfl
  unfold LoopsOK
  rw [h]
  exact fun _ h => absurd h List.not_mem_nil

theorem ok_lw_heldConsole : FnOK prog E_lw_heldConsole tt 43 D_lw_heldConsole K_lw_heldConsole Z_lw_heldConsole O_lw_heldConsole f43 C_lw_heldConsole (fun x => T_lw_heldConsole x.1.1.1 x.1.1.2.1 x.1.1.2.2.1 x.1.1.2.2.2.1 x.1.1.2.2.2.2.1 x.1.1.2.2.2.2.2.1 x.1.1.2.2.2.2.2.2.1 x.1.2.1) (fun r => ((r, ()), ())) where
  at_ := func43
  name := by kernel_rfl
  body := by kernel_rfl
  res := by kernel_rfl
  ok := by kernel_rfl
  arity := fun _ => Nat.le_of_ble_eq_true (by kernel_rfl)
  pin := fun _ => by kernel_rfl
  chk := by kernel_rfl
  loops := o_lw_heldConsole
  run := e_lw_heldConsole
  F := fun _ => rfl
  emb := fun _ => rfl

theorem fd_lw_heldConsole : FDok prog (43, D_lw_heldConsole) := fn_ok mixed (env_ok (List.forall_mem_cons.2 ⟨fd_lw_heldAtlas, fun _ h => absurd h List.not_mem_nil⟩)) tabOK ok_lw_heldConsole

theorem e_lw_FnExactNewConsole : ∀ x : D_lw_FnExactNewConsole.T, ((acode E_lw_FnExactNewConsole tt Z_lw_FnExactNewConsole (orcOf O_lw_FnExactNewConsole) C_lw_FnExactNewConsole (entry A_lw_FnExactNewConsole I_lw_FnExactNewConsole x)).map (keepRet tt K_lw_FnExactNewConsole)).ev = ((T_lw_FnExactNewConsole x.1.1.1 x.1.1.2.1 x.1.1.2.2.1 x.1.1.2.2.2.1).map fun r => some ((((r, ()), ())) : K_lw_FnExactNewConsole.T)).ev := fun _ => by kernel_rfl

theorem o_lw_FnExactNewConsole : LoopsOK E_lw_FnExactNewConsole tt Z_lw_FnExactNewConsole O_lw_FnExactNewConsole C_lw_FnExactNewConsole := by
  have h : loopsOf C_lw_FnExactNewConsole = [] := by kernel_rfl
  unfold LoopsOK
  rw [h]
  exact fun _ h => absurd h List.not_mem_nil

theorem ok_lw_FnExactNewConsole : FnOK prog E_lw_FnExactNewConsole tt 7 D_lw_FnExactNewConsole K_lw_FnExactNewConsole Z_lw_FnExactNewConsole O_lw_FnExactNewConsole f7 C_lw_FnExactNewConsole (fun x => T_lw_FnExactNewConsole x.1.1.1 x.1.1.2.1 x.1.1.2.2.1 x.1.1.2.2.2.1) (fun r => ((r, ()), ())) where
  at_ := func7
  name := by kernel_rfl
  body := by kernel_rfl
  res := by kernel_rfl
  ok := by kernel_rfl
  arity := fun _ => Nat.le_of_ble_eq_true (by kernel_rfl)
  pin := fun _ => by kernel_rfl
  chk := by kernel_rfl
  loops := o_lw_FnExactNewConsole
  run := e_lw_FnExactNewConsole
  F := fun _ => rfl
  emb := fun _ => rfl

theorem fd_lw_FnExactNewConsole : FDok prog (7, D_lw_FnExactNewConsole) := fn_ok mixed (env_ok (List.forall_mem_cons.2 ⟨fd_lw_szAtlas, List.forall_mem_cons.2 ⟨fd_lw_toAtlas, List.forall_mem_cons.2 ⟨fd_sp_NewConsole, List.forall_mem_cons.2 ⟨fd_im_NewConsole, List.forall_mem_cons.2 ⟨fd_lw_eqConsole, List.forall_mem_cons.2 ⟨fd_lw_eqAtlas, List.forall_mem_cons.2 ⟨fd_lw_markAtlas, List.forall_mem_cons.2 ⟨fd_lw_markConsole, List.forall_mem_cons.2 ⟨fd_lw_heldConsole, fun _ h => absurd h List.not_mem_nil⟩⟩⟩⟩⟩⟩⟩⟩⟩)) tabOK ok_lw_FnExactNewConsole
end Go.Proofs.Ythkafleokepjeaa
