import Derived.Test.YtafcpibodfbjnaaC1
namespace Go.Proofs.Ytafcpibodfbjnaa
open Go.Proofs.Try

theorem mixed : prog.follows .mixedOrders = true := by kernel_rfl
theorem tabOK : TabOK prog tt := tab_ok (by kernel_rfl)

theorem e_lw_szIntS : ∀ x : A_lw_szIntS.I, ((acode E_lw_szIntS tt Z_lw_szIntS (orcOf O_lw_szIntS) C_lw_szIntS (entry A_lw_szIntS x)).map (keepRet tt K_lw_szIntS)).ev = ((T_lw_szIntS x.1 x.2.1).map fun r => some ((((r, ()), ())) : K_lw_szIntS.T)).ev := fun _ => by kernel_rfl

theorem o_lw_szIntS : LoopsOK E_lw_szIntS tt Z_lw_szIntS O_lw_szIntS C_lw_szIntS := by
  have h : loopsOf C_lw_szIntS = [] := by kernel_rfl
  unfold LoopsOK
  rw [h]
  exact fun _ h => absurd h List.not_mem_nil

theorem ok_lw_szIntS : FnOK prog E_lw_szIntS tt 34 D_lw_szIntS K_lw_szIntS Z_lw_szIntS O_lw_szIntS f34 C_lw_szIntS (fun x => T_lw_szIntS x.1 x.2.1) (fun r => ((r, ()), ())) where
  at_ := func34
  name := by kernel_rfl
  body := by kernel_rfl
  res := by kernel_rfl
  ok := by kernel_rfl
  arity := fun _ => Nat.le_of_ble_eq_true (by kernel_rfl)
  chk := by kernel_rfl
  loops := o_lw_szIntS
  run := e_lw_szIntS
  F := fun _ => rfl
  emb := fun _ => rfl

theorem fd_lw_szIntS : FDok prog (34, D_lw_szIntS) := fn_ok mixed (env_ok (fun _ h => absurd h List.not_mem_nil)) tabOK ok_lw_szIntS

theorem e_lw_szIntSS : ∀ x : A_lw_szIntSS.I, ((acode E_lw_szIntSS tt Z_lw_szIntSS (orcOf O_lw_szIntSS) C_lw_szIntSS (entry A_lw_szIntSS x)).map (keepRet tt K_lw_szIntSS)).ev = ((T_lw_szIntSS x.1 x.2.1).map fun r => some ((((r, ()), ())) : K_lw_szIntSS.T)).ev := fun _ => by kernel_rfl

noncomputable def B_lw_szIntSS_0 : Code := ((loopsOf C_lw_szIntSS).find? fun p => Nat.beq p.1 0).elim .skip (·.2)
theorem l_lw_szIntSS_0 : DL_lw_szIntSS_0.OK E_lw_szIntSS tt Z_lw_szIntSS (orcOf O_lw_szIntSS) B_lw_szIntSS_0 where
  ok := by kernel_rfl
  oke := by kernel_rfl
  okr := by kernel_rfl
  eta := fun _ => rfl
  step := fun _ _ => by kernel_rfl

theorem o_lw_szIntSS : LoopsOK E_lw_szIntSS tt Z_lw_szIntSS O_lw_szIntSS C_lw_szIntSS := by
  have h : loopsOf C_lw_szIntSS = [(0, B_lw_szIntSS_0)] := by kernel_rfl
  unfold LoopsOK
  rw [h]
  exact List.forall_mem_cons.2 ⟨⟨DL_lw_szIntSS_0, rfl, l_lw_szIntSS_0⟩, fun _ h => absurd h List.not_mem_nil⟩

theorem ok_lw_szIntSS : FnOK prog E_lw_szIntSS tt 10 D_lw_szIntSS K_lw_szIntSS Z_lw_szIntSS O_lw_szIntSS f10 C_lw_szIntSS (fun x => T_lw_szIntSS x.1 x.2.1) (fun r => ((r, ()), ())) where
  at_ := func10
  name := by kernel_rfl
  body := by kernel_rfl
  res := by kernel_rfl
  ok := by kernel_rfl
  arity := fun _ => Nat.le_of_ble_eq_true (by kernel_rfl)
  chk := by kernel_rfl
  loops := o_lw_szIntSS
  run := e_lw_szIntSS
  F := fun _ => rfl
  emb := fun _ => rfl

theorem fd_lw_szIntSS : FDok prog (10, D_lw_szIntSS) := fn_ok mixed (env_ok (List.forall_mem_cons.2 ⟨fd_lw_szIntS, fun _ h => absurd h List.not_mem_nil⟩)) tabOK ok_lw_szIntSS

theorem e_lw_toIntS : ∀ x : A_lw_toIntS.I, ((acode E_lw_toIntS tt Z_lw_toIntS (orcOf O_lw_toIntS) C_lw_toIntS (entry A_lw_toIntS x)).map (keepRet tt K_lw_toIntS)).ev = ((T_lw_toIntS x.1).map fun r => some (((((), ()), (r, ()))) : K_lw_toIntS.T)).ev := fun _ => by kernel_rfl

noncomputable def B_lw_toIntS_0 : Code := ((loopsOf C_lw_toIntS).find? fun p => Nat.beq p.1 0).elim .skip (·.2)
theorem l_lw_toIntS_0 : DL_lw_toIntS_0.OK E_lw_toIntS tt Z_lw_toIntS (orcOf O_lw_toIntS) B_lw_toIntS_0 where
  ok := by kernel_rfl
  oke := by kernel_rfl
  okr := by kernel_rfl
  eta := fun _ => rfl
  step := fun _ _ => by kernel_rfl

theorem o_lw_toIntS : LoopsOK E_lw_toIntS tt Z_lw_toIntS O_lw_toIntS C_lw_toIntS := by
  have h : loopsOf C_lw_toIntS = [(0, B_lw_toIntS_0)] := by kernel_rfl
  unfold LoopsOK
  rw [h]
  exact List.forall_mem_cons.2 ⟨⟨DL_lw_toIntS_0, rfl, l_lw_toIntS_0⟩, fun _ h => absurd h List.not_mem_nil⟩

theorem ok_lw_toIntS : FnOK prog E_lw_toIntS tt 16 D_lw_toIntS K_lw_toIntS Z_lw_toIntS O_lw_toIntS f16 C_lw_toIntS (fun x => T_lw_toIntS x.1) (fun r => (((), ()), (r, ()))) where
  at_ := func16
  name := by kernel_rfl
  body := by kernel_rfl
  res := by kernel_rfl
  ok := by kernel_rfl
  arity := fun _ => Nat.le_of_ble_eq_true (by kernel_rfl)
  chk := by kernel_rfl
  loops := o_lw_toIntS
  run := e_lw_toIntS
  F := fun _ => rfl
  emb := fun _ => rfl

theorem fd_lw_toIntS : FDok prog (16, D_lw_toIntS) := fn_ok mixed (env_ok (fun _ h => absurd h List.not_mem_nil)) tabOK ok_lw_toIntS

theorem e_lw_toIntSS : ∀ x : A_lw_toIntSS.I, ((acode E_lw_toIntSS tt Z_lw_toIntSS (orcOf O_lw_toIntSS) C_lw_toIntSS (entry A_lw_toIntSS x)).map (keepRet tt K_lw_toIntSS)).ev = ((T_lw_toIntSS x.1).map fun r => some (((((), ()), (r, ()))) : K_lw_toIntSS.T)).ev := fun _ => by kernel_rfl

noncomputable def B_lw_toIntSS_0 : Code := ((loopsOf C_lw_toIntSS).find? fun p => Nat.beq p.1 0).elim .skip (·.2)
theorem l_lw_toIntSS_0 : DL_lw_toIntSS_0.OK E_lw_toIntSS tt Z_lw_toIntSS (orcOf O_lw_toIntSS) B_lw_toIntSS_0 where
  ok := by kernel_rfl
  oke := by kernel_rfl
  okr := by kernel_rfl
  eta := fun _ => rfl
  step := fun _ _ => by kernel_rfl

theorem o_lw_toIntSS : LoopsOK E_lw_toIntSS tt Z_lw_toIntSS O_lw_toIntSS C_lw_toIntSS := by
  have h : loopsOf C_lw_toIntSS = [(0, B_lw_toIntSS_0)] := by kernel_rfl
  unfold LoopsOK
  rw [h]
  exact List.forall_mem_cons.2 ⟨⟨DL_lw_toIntSS_0, rfl, l_lw_toIntSS_0⟩, fun _ h => absurd h List.not_mem_nil⟩

theorem ok_lw_toIntSS : FnOK prog E_lw_toIntSS tt 12 D_lw_toIntSS K_lw_toIntSS Z_lw_toIntSS O_lw_toIntSS f12 C_lw_toIntSS (fun x => T_lw_toIntSS x.1) (fun r => (((), ()), (r, ()))) where
  at_ := func12
  name := by kernel_rfl
  body := by kernel_rfl
  res := by kernel_rfl
  ok := by kernel_rfl
  arity := fun _ => Nat.le_of_ble_eq_true (by kernel_rfl)
  chk := by kernel_rfl
  loops := o_lw_toIntSS
  run := e_lw_toIntSS
  F := fun _ => rfl
  emb := fun _ => rfl

theorem fd_lw_toIntSS : FDok prog (12, D_lw_toIntSS) := fn_ok mixed (env_ok (List.forall_mem_cons.2 ⟨fd_lw_toIntS, fun _ h => absurd h List.not_mem_nil⟩)) tabOK ok_lw_toIntSS

theorem e_sp_l1In : ∀ x : A_sp_l1In.I, ((acode E_sp_l1In tt Z_sp_l1In (orcOf O_sp_l1In) C_sp_l1In (entry A_sp_l1In x)).map (keepRet tt K_sp_l1In)).ev = ((T_sp_l1In x.1 x.2.1 x.2.2.1).map fun r => some ((((r, ()), ())) : K_sp_l1In.T)).ev := fun _ => by kernel_rfl

theorem o_sp_l1In : LoopsOK E_sp_l1In tt Z_sp_l1In O_sp_l1In C_sp_l1In := by
  have h : loopsOf C_sp_l1In = [] := by kernel_rfl
  unfold LoopsOK
  rw [h]
  exact fun _ h => absurd h List.not_mem_nil

theorem ok_sp_l1In : FnOK prog E_sp_l1In tt 62 D_sp_l1In K_sp_l1In Z_sp_l1In O_sp_l1In f62 C_sp_l1In (fun x => T_sp_l1In x.1 x.2.1 x.2.2.1) (fun r => ((r, ()), ())) where
  at_ := func62
  name := by kernel_rfl
  body := by kernel_rfl
  res := by kernel_rfl
  ok := by kernel_rfl
  arity := fun _ => Nat.le_of_ble_eq_true (by kernel_rfl)
  chk := by kernel_rfl
  loops := o_sp_l1In
  run := e_sp_l1In
  F := fun _ => rfl
  emb := fun _ => rfl

theorem fd_sp_l1In : FDok prog (62, D_sp_l1In) := fn_ok mixed (env_ok (fun _ h => absurd h List.not_mem_nil)) tabOK ok_sp_l1In

theorem e_sp_l2Row : ∀ x : A_sp_l2Row.I, ((acode E_sp_l2Row tt Z_sp_l2Row (orcOf O_sp_l2Row) C_sp_l2Row (entry A_sp_l2Row x)).map (keepRet tt K_sp_l2Row)).ev = ((T_sp_l2Row x.1 x.2.1 x.2.2.1).map fun r => some ((((r, ()), ())) : K_sp_l2Row.T)).ev := fun _ => by kernel_rfl

noncomputable def B_sp_l2Row_0 : Code := ((loopsOf C_sp_l2Row).find? fun p => Nat.beq p.1 0).elim .skip (·.2)
theorem l_sp_l2Row_0 : DL_sp_l2Row_0.OK E_sp_l2Row tt Z_sp_l2Row (orcOf O_sp_l2Row) B_sp_l2Row_0 where
  ok := by kernel_rfl
  oke := by kernel_rfl
  okr := by kernel_rfl
  eta := fun _ => rfl
  step := fun _ _ => by kernel_rfl

theorem o_sp_l2Row : LoopsOK E_sp_l2Row tt Z_sp_l2Row O_sp_l2Row C_sp_l2Row := by
  have h : loopsOf C_sp_l2Row = [(0, B_sp_l2Row_0)] := by kernel_rfl
  unfold LoopsOK
  rw [h]
  exact List.forall_mem_cons.2 ⟨⟨DL_sp_l2Row_0, rfl, l_sp_l2Row_0⟩, fun _ h => absurd h List.not_mem_nil⟩

theorem ok_sp_l2Row : FnOK prog E_sp_l2Row tt 59 D_sp_l2Row K_sp_l2Row Z_sp_l2Row O_sp_l2Row f59 C_sp_l2Row (fun x => T_sp_l2Row x.1 x.2.1 x.2.2.1) (fun r => ((r, ()), ())) where
  at_ := func59
  name := by kernel_rfl
  body := by kernel_rfl
  res := by kernel_rfl
  ok := by kernel_rfl
  arity := fun _ => Nat.le_of_ble_eq_true (by kernel_rfl)
  chk := by kernel_rfl
  loops := o_sp_l2Row
  run := e_sp_l2Row
  F := fun _ => rfl
  emb := fun _ => rfl

theorem fd_sp_l2Row : FDok prog (59, D_sp_l2Row) := fn_ok mixed (env_ok (List.forall_mem_cons.2 ⟨fd_sp_l1In, fun _ h => absurd h List.not_mem_nil⟩)) tabOK ok_sp_l2Row

theorem e_sp_l11Ground : ∀ x : A_sp_l11Ground.I, ((acode E_sp_l11Ground tt Z_sp_l11Ground (orcOf O_sp_l11Ground) C_sp_l11Ground (entry A_sp_l11Ground x)).map (keepRet tt K_sp_l11Ground)).ev = ((T_sp_l11Ground x.1).map fun r => some ((((r, ()), ())) : K_sp_l11Ground.T)).ev := fun _ => by kernel_rfl

noncomputable def B_sp_l11Ground_2 : Code := ((loopsOf C_sp_l11Ground).find? fun p => Nat.beq p.1 2).elim .skip (·.2)
theorem l_sp_l11Ground_2 : DL_sp_l11Ground_2.OK E_sp_l11Ground tt Z_sp_l11Ground (orcOf O_sp_l11Ground) B_sp_l11Ground_2 where
  ok := by kernel_rfl
  oke := by kernel_rfl
  okr := by kernel_rfl
  eta := fun _ => rfl
  step := fun _ _ => by kernel_rfl

noncomputable def B_sp_l11Ground_0 : Code := ((loopsOf C_sp_l11Ground).find? fun p => Nat.beq p.1 0).elim .skip (·.2)
theorem l_sp_l11Ground_0 : DL_sp_l11Ground_0.OK E_sp_l11Ground tt Z_sp_l11Ground (orcOf O_sp_l11Ground) B_sp_l11Ground_0 where
  ok := by kernel_rfl
  oke := by kernel_rfl
  okr := by kernel_rfl
  eta := fun _ => rfl
  step := fun _ _ => by kernel_rfl

theorem o_sp_l11Ground : LoopsOK E_sp_l11Ground tt Z_sp_l11Ground O_sp_l11Ground C_sp_l11Ground := by
  have h : loopsOf C_sp_l11Ground = [(0, B_sp_l11Ground_0), (2, B_sp_l11Ground_2)] := by kernel_rfl
  unfold LoopsOK
  rw [h]
  exact List.forall_mem_cons.2 ⟨⟨DL_sp_l11Ground_0, rfl, l_sp_l11Ground_0⟩, List.forall_mem_cons.2 ⟨⟨DL_sp_l11Ground_2, rfl, l_sp_l11Ground_2⟩, fun _ h => absurd h List.not_mem_nil⟩⟩

theorem ok_sp_l11Ground : FnOK prog E_sp_l11Ground tt 35 D_sp_l11Ground K_sp_l11Ground Z_sp_l11Ground O_sp_l11Ground f35 C_sp_l11Ground (fun x => T_sp_l11Ground x.1) (fun r => ((r, ()), ())) where
  at_ := func35
  name := by kernel_rfl
  body := by kernel_rfl
  res := by kernel_rfl
  ok := by kernel_rfl
  arity := fun _ => Nat.le_of_ble_eq_true (by kernel_rfl)
  chk := by kernel_rfl
  loops := o_sp_l11Ground
  run := e_sp_l11Ground
  F := fun _ => rfl
  emb := fun _ => rfl

theorem fd_sp_l11Ground : FDok prog (35, D_sp_l11Ground) := fn_ok mixed (env_ok (List.forall_mem_cons.2 ⟨fd_sp_l2Row, fun _ h => absurd h List.not_mem_nil⟩)) tabOK ok_sp_l11Ground

theorem e_sp_IsGround : ∀ x : A_sp_IsGround.I, ((acode E_sp_IsGround tt Z_sp_IsGround (orcOf O_sp_IsGround) C_sp_IsGround (entry A_sp_IsGround x)).map (keepRet tt K_sp_IsGround)).ev = ((T_sp_IsGround x.1).map fun r => some ((((r, ()), ())) : K_sp_IsGround.T)).ev := fun _ => by kernel_rfl

theorem o_sp_IsGround : LoopsOK E_sp_IsGround tt Z_sp_IsGround O_sp_IsGround C_sp_IsGround := by
  have h : loopsOf C_sp_IsGround = [] := by kernel_rfl
  unfold LoopsOK
  rw [h]
  exact fun _ h => absurd h List.not_mem_nil

theorem ok_sp_IsGround : FnOK prog E_sp_IsGround tt 11 D_sp_IsGround K_sp_IsGround Z_sp_IsGround O_sp_IsGround f11 C_sp_IsGround (fun x => T_sp_IsGround x.1) (fun r => ((r, ()), ())) where
  at_ := func11
  name := by kernel_rfl
  body := by kernel_rfl
  res := by kernel_rfl
  ok := by kernel_rfl
  arity := fun _ => Nat.le_of_ble_eq_true (by kernel_rfl)
  chk := by kernel_rfl
  loops := o_sp_IsGround
  run := e_sp_IsGround
  F := fun _ => rfl
  emb := fun _ => rfl

theorem fd_sp_IsGround : FDok prog (11, D_sp_IsGround) := fn_ok mixed (env_ok (List.forall_mem_cons.2 ⟨fd_sp_l11Ground, fun _ h => absurd h List.not_mem_nil⟩)) tabOK ok_sp_IsGround

theorem e_slices_IndexFunc_Sint_int : ∀ x : A_slices_IndexFunc_Sint_int.I, ((acode E_slices_IndexFunc_Sint_int tt Z_slices_IndexFunc_Sint_int (orcOf O_slices_IndexFunc_Sint_int) C_slices_IndexFunc_Sint_int (entry A_slices_IndexFunc_Sint_int x)).map (keepRet tt K_slices_IndexFunc_Sint_int)).ev = ((T_slices_IndexFunc_Sint_int x.1 x.2.1).map fun r => some ((((r, ()), ())) : K_slices_IndexFunc_Sint_int.T)).ev := fun _ => by kernel_rfl

noncomputable def B_slices_IndexFunc_Sint_int_0 : Code := ((loopsOf C_slices_IndexFunc_Sint_int).find? fun p => Nat.beq p.1 0).elim .skip (·.2)
theorem l_slices_IndexFunc_Sint_int_0 : DL_slices_IndexFunc_Sint_int_0.OK E_slices_IndexFunc_Sint_int tt Z_slices_IndexFunc_Sint_int (orcOf O_slices_IndexFunc_Sint_int) B_slices_IndexFunc_Sint_int_0 where
  ok := by kernel_rfl
  oke := by kernel_rfl
  okr := by kernel_rfl
  eta := fun _ => rfl
  step := fun _ _ => by kernel_rfl

theorem o_slices_IndexFunc_Sint_int : LoopsOK E_slices_IndexFunc_Sint_int tt Z_slices_IndexFunc_Sint_int O_slices_IndexFunc_Sint_int C_slices_IndexFunc_Sint_int := by
  have h : loopsOf C_slices_IndexFunc_Sint_int = [(0, B_slices_IndexFunc_Sint_int_0)] := by kernel_rfl
  unfold LoopsOK
  rw [h]
  exact List.forall_mem_cons.2 ⟨⟨DL_slices_IndexFunc_Sint_int_0, rfl, l_slices_IndexFunc_Sint_int_0⟩, fun _ h => absurd h List.not_mem_nil⟩

theorem ok_slices_IndexFunc_Sint_int : FnOK prog E_slices_IndexFunc_Sint_int tt 73 D_slices_IndexFunc_Sint_int K_slices_IndexFunc_Sint_int Z_slices_IndexFunc_Sint_int O_slices_IndexFunc_Sint_int f73 C_slices_IndexFunc_Sint_int (fun x => T_slices_IndexFunc_Sint_int x.1 x.2.1) (fun r => ((r, ()), ())) where
  at_ := func73
  name := by kernel_rfl
  body := by kernel_rfl
  res := by kernel_rfl
  ok := by kernel_rfl
  arity := fun _ => Nat.le_of_ble_eq_true (by kernel_rfl)
  chk := by kernel_rfl
  loops := o_slices_IndexFunc_Sint_int
  run := e_slices_IndexFunc_Sint_int
  F := fun _ => rfl
  emb := fun _ => rfl

theorem fd_slices_IndexFunc_Sint_int : FDok prog (73, D_slices_IndexFunc_Sint_int) := fn_ok mixed (env_ok (fun _ h => absurd h List.not_mem_nil)) tabOK ok_slices_IndexFunc_Sint_int

theorem e_slices_ContainsFunc_Sint_int : ∀ x : A_slices_ContainsFunc_Sint_int.I, ((acode E_slices_ContainsFunc_Sint_int tt Z_slices_ContainsFunc_Sint_int (orcOf O_slices_ContainsFunc_Sint_int) C_slices_ContainsFunc_Sint_int (entry A_slices_ContainsFunc_Sint_int x)).map (keepRet tt K_slices_ContainsFunc_Sint_int)).ev = ((T_slices_ContainsFunc_Sint_int x.1 x.2.1).map fun r => some ((((r, ()), ())) : K_slices_ContainsFunc_Sint_int.T)).ev := fun _ => by kernel_rfl

theorem o_slices_ContainsFunc_Sint_int : LoopsOK E_slices_ContainsFunc_Sint_int tt Z_slices_ContainsFunc_Sint_int O_slices_ContainsFunc_Sint_int C_slices_ContainsFunc_Sint_int := by
  have h : loopsOf C_slices_ContainsFunc_Sint_int = [] := by kernel_rfl
  unfold LoopsOK
  rw [h]
  exact fun _ h => absurd h List.not_mem_nil

theorem ok_slices_ContainsFunc_Sint_int : FnOK prog E_slices_ContainsFunc_Sint_int tt 60 D_slices_ContainsFunc_Sint_int K_slices_ContainsFunc_Sint_int Z_slices_ContainsFunc_Sint_int O_slices_ContainsFunc_Sint_int f60 C_slices_ContainsFunc_Sint_int (fun x => T_slices_ContainsFunc_Sint_int x.1 x.2.1) (fun r => ((r, ()), ())) where
  at_ := func60
  name := by kernel_rfl
  body := by kernel_rfl
  res := by kernel_rfl
  ok := by kernel_rfl
  arity := fun _ => Nat.le_of_ble_eq_true (by kernel_rfl)
  chk := by kernel_rfl
  loops := o_slices_ContainsFunc_Sint_int
  run := e_slices_ContainsFunc_Sint_int
  F := fun _ => rfl
  emb := fun _ => rfl

theorem fd_slices_ContainsFunc_Sint_int : FDok prog (60, D_slices_ContainsFunc_Sint_int) := fn_ok mixed (env_ok (List.forall_mem_cons.2 ⟨fd_slices_IndexFunc_Sint_int, fun _ h => absurd h List.not_mem_nil⟩)) tabOK ok_slices_ContainsFunc_Sint_int

theorem e_im_between : ∀ x : A_im_between.I, ((acode E_im_between tt Z_im_between (orcOf O_im_between) C_im_between (entry A_im_between x)).map (keepRet tt K_im_between)).ev = ((T_im_between x.1 x.2.1 x.2.2.1).map fun r => some ((((r, ()), ())) : K_im_between.T)).ev := fun _ => by kernel_rfl

theorem o_im_between : LoopsOK E_im_between tt Z_im_between O_im_between C_im_between := by
  have h : loopsOf C_im_between = [] := by kernel_rfl
  unfold LoopsOK
  rw [h]
  exact fun _ h => absurd h List.not_mem_nil

theorem ok_im_between : FnOK prog E_im_between tt 53 D_im_between K_im_between Z_im_between O_im_between f53 C_im_between (fun x => T_im_between x.1 x.2.1 x.2.2.1) (fun r => ((r, ()), ())) where
  at_ := func53
  name := by kernel_rfl
  body := by kernel_rfl
  res := by kernel_rfl
  ok := by kernel_rfl
  arity := fun _ => Nat.le_of_ble_eq_true (by kernel_rfl)
  chk := by kernel_rfl
  loops := o_im_between
  run := e_im_between
  F := fun _ => rfl
  emb := fun _ => rfl

theorem fd_im_between : FDok prog (53, D_im_between) := fn_ok mixed (env_ok (fun _ h => absurd h List.not_mem_nil)) tabOK ok_im_between

theorem e_im_areBetween_1 : ∀ x : A_im_areBetween_1.I, ((acode E_im_areBetween_1 tt Z_im_areBetween_1 (orcOf O_im_areBetween_1) C_im_areBetween_1 (entry A_im_areBetween_1 x)).map (keepRet tt K_im_areBetween_1)).ev = ((T_im_areBetween_1 x.1 x.2.1.1 x.2.2.1.1).map fun r => some ((((r, ()), ())) : K_im_areBetween_1.T)).ev := fun _ => by kernel_rfl

theorem o_im_areBetween_1 : LoopsOK E_im_areBetween_1 tt Z_im_areBetween_1 O_im_areBetween_1 C_im_areBetween_1 := by
  have h : loopsOf C_im_areBetween_1 = [] := by kernel_rfl
  unfold LoopsOK
  rw [h]
  exact fun _ h => absurd h List.not_mem_nil

theorem ok_im_areBetween_1 : FnOK prog E_im_areBetween_1 tt 61 D_im_areBetween_1 K_im_areBetween_1 Z_im_areBetween_1 O_im_areBetween_1 f61 C_im_areBetween_1 (fun x => T_im_areBetween_1 x.1 x.2.1.1 x.2.2.1.1) (fun r => ((r, ()), ())) where
  at_ := func61
  name := by kernel_rfl
  body := by kernel_rfl
  res := by kernel_rfl
  ok := by kernel_rfl
  arity := fun _ => Nat.le_of_ble_eq_true (by kernel_rfl)
  chk := by kernel_rfl
  loops := o_im_areBetween_1
  run := e_im_areBetween_1
  F := fun _ => rfl
  emb := fun _ => rfl

theorem fd_im_areBetween_1 : FDok prog (61, D_im_areBetween_1) := fn_ok mixed (env_ok (List.forall_mem_cons.2 ⟨fd_im_between, fun _ h => absurd h List.not_mem_nil⟩)) tabOK ok_im_areBetween_1

theorem e_im_areBetween : ∀ x : A_im_areBetween.I, ((acode E_im_areBetween tt Z_im_areBetween (orcOf O_im_areBetween) C_im_areBetween (entry A_im_areBetween x)).map (keepRet tt K_im_areBetween)).ev = ((T_im_areBetween x.1 x.2.1 x.2.2.1).map fun r => some ((((r, ()), ())) : K_im_areBetween.T)).ev := fun _ => by kernel_rfl

theorem o_im_areBetween : LoopsOK E_im_areBetween tt Z_im_areBetween O_im_areBetween C_im_areBetween := by
  have h : loopsOf C_im_areBetween = [] := by kernel_rfl
  unfold LoopsOK
  rw [h]
  exact fun _ h => absurd h List.not_mem_nil

theorem ok_im_areBetween : FnOK prog E_im_areBetween tt 36 D_im_areBetween K_im_areBetween Z_im_areBetween O_im_areBetween f36 C_im_areBetween (fun x => T_im_areBetween x.1 x.2.1 x.2.2.1) (fun r => ((r, ()), ())) where
  at_ := func36
  name := by kernel_rfl
  body := by kernel_rfl
  res := by kernel_rfl
  ok := by kernel_rfl
  arity := fun _ => Nat.le_of_ble_eq_true (by kernel_rfl)
  chk := by kernel_rfl
  loops := o_im_areBetween
  run := e_im_areBetween
  F := fun _ => rfl
  emb := fun _ => rfl

theorem fd_im_areBetween : FDok prog (36, D_im_areBetween) := fn_ok mixed (env_ok (List.forall_mem_cons.2 ⟨fd_slices_ContainsFunc_Sint_int, List.forall_mem_cons.2 ⟨fd_im_areBetween_1, fun _ h => absurd h List.not_mem_nil⟩⟩)) tabOK ok_im_areBetween

theorem e_im_IsGround : ∀ x : A_im_IsGround.I, ((acode E_im_IsGround tt Z_im_IsGround (orcOf O_im_IsGround) C_im_IsGround (entry A_im_IsGround x)).map (keepRet tt K_im_IsGround)).ev = ((T_im_IsGround x.1).map fun r => some ((((r, ()), ())) : K_im_IsGround.T)).ev := fun _ => by kernel_rfl

noncomputable def B_im_IsGround_0 : Code := ((loopsOf C_im_IsGround).find? fun p => Nat.beq p.1 0).elim .skip (·.2)
theorem l_im_IsGround_0 : DL_im_IsGround_0.OK E_im_IsGround tt Z_im_IsGround (orcOf O_im_IsGround) B_im_IsGround_0 where
  ok := by kernel_rfl
  oke := by kernel_rfl
  okr := by kernel_rfl
  eta := fun _ => rfl
  step := fun _ _ => by kernel_rfl

noncomputable def B_im_IsGround_4 : Code := ((loopsOf C_im_IsGround).find? fun p => Nat.beq p.1 4).elim .skip (·.2)
theorem l_im_IsGround_4 : DL_im_IsGround_4.OK E_im_IsGround tt Z_im_IsGround (orcOf O_im_IsGround) B_im_IsGround_4 where
  ok := by kernel_rfl
  oke := by kernel_rfl
  okr := by kernel_rfl
  eta := fun _ => rfl
  step := fun _ _ => by kernel_rfl

noncomputable def B_im_IsGround_2 : Code := ((loopsOf C_im_IsGround).find? fun p => Nat.beq p.1 2).elim .skip (·.2)
theorem l_im_IsGround_2 : DL_im_IsGround_2.OK E_im_IsGround tt Z_im_IsGround (orcOf O_im_IsGround) B_im_IsGround_2 where
  ok := by kernel_rfl
  oke := by kernel_rfl
  okr := by kernel_rfl
  eta := fun _ => rfl
  step := fun _ _ => by kernel_rfl

theorem o_im_IsGround : LoopsOK E_im_IsGround tt Z_im_IsGround O_im_IsGround C_im_IsGround := by
  have h : loopsOf C_im_IsGround = [(0, B_im_IsGround_0), (2, B_im_IsGround_2), (4, B_im_IsGround_4)] := by kernel_rfl
  unfold LoopsOK
  rw [h]
  exact List.forall_mem_cons.2 ⟨⟨DL_im_IsGround_0, rfl, l_im_IsGround_0⟩, List.forall_mem_cons.2 ⟨⟨DL_im_IsGround_2, rfl, l_im_IsGround_2⟩, List.forall_mem_cons.2 ⟨⟨DL_im_IsGround_4, rfl, l_im_IsGround_4⟩, fun _ h => absurd h List.not_mem_nil⟩⟩⟩

theorem ok_im_IsGround : FnOK prog E_im_IsGround tt 13 D_im_IsGround K_im_IsGround Z_im_IsGround O_im_IsGround f13 C_im_IsGround (fun x => T_im_IsGround x.1) (fun r => ((r, ()), ())) where
  at_ := func13
  name := by kernel_rfl
  body := by kernel_rfl
  res := by kernel_rfl
  ok := by kernel_rfl
  arity := fun _ => Nat.le_of_ble_eq_true (by kernel_rfl)
  chk := by kernel_rfl
  loops := o_im_IsGround
  run := e_im_IsGround
  F := fun _ => rfl
  emb := fun _ => rfl

theorem fd_im_IsGround : FDok prog (13, D_im_IsGround) := fn_ok mixed (env_ok (List.forall_mem_cons.2 ⟨fd_im_areBetween, fun _ h => absurd h List.not_mem_nil⟩)) tabOK ok_im_IsGround

theorem e_lw_eqIntS : ∀ x : A_lw_eqIntS.I, ((acode E_lw_eqIntS tt Z_lw_eqIntS (orcOf O_lw_eqIntS) C_lw_eqIntS (entry A_lw_eqIntS x)).map (keepRet tt K_lw_eqIntS)).ev = ((T_lw_eqIntS x.1 x.2.1).map fun r => some ((((r, ()), ())) : K_lw_eqIntS.T)).ev := fun _ => by kernel_rfl

noncomputable def B_lw_eqIntS_0 : Code := ((loopsOf C_lw_eqIntS).find? fun p => Nat.beq p.1 0).elim .skip (·.2)
theorem l_lw_eqIntS_0 : DL_lw_eqIntS_0.OK E_lw_eqIntS tt Z_lw_eqIntS (orcOf O_lw_eqIntS) B_lw_eqIntS_0 where
  ok := by kernel_rfl
  oke := by kernel_rfl
  okr := by kernel_rfl
  eta := fun _ => rfl
  step := fun _ _ => by kernel_rfl

theorem o_lw_eqIntS : LoopsOK E_lw_eqIntS tt Z_lw_eqIntS O_lw_eqIntS C_lw_eqIntS := by
  have h : loopsOf C_lw_eqIntS = [(0, B_lw_eqIntS_0)] := by kernel_rfl
  unfold LoopsOK
  rw [h]
  exact List.forall_mem_cons.2 ⟨⟨DL_lw_eqIntS_0, rfl, l_lw_eqIntS_0⟩, fun _ h => absurd h List.not_mem_nil⟩

theorem ok_lw_eqIntS : FnOK prog E_lw_eqIntS tt 18 D_lw_eqIntS K_lw_eqIntS Z_lw_eqIntS O_lw_eqIntS f18 C_lw_eqIntS (fun x => T_lw_eqIntS x.1 x.2.1) (fun r => ((r, ()), ())) where
  at_ := func18
  name := by kernel_rfl
  body := by kernel_rfl
  res := by kernel_rfl
  ok := by kernel_rfl
  arity := fun _ => Nat.le_of_ble_eq_true (by kernel_rfl)
  chk := by kernel_rfl
  loops := o_lw_eqIntS
  run := e_lw_eqIntS
  F := fun _ => rfl
  emb := fun _ => rfl

theorem fd_lw_eqIntS : FDok prog (18, D_lw_eqIntS) := fn_ok mixed (env_ok (fun _ h => absurd h List.not_mem_nil)) tabOK ok_lw_eqIntS

theorem e_lw_eqIntSS : ∀ x : A_lw_eqIntSS.I, ((acode E_lw_eqIntSS tt Z_lw_eqIntSS (orcOf O_lw_eqIntSS) C_lw_eqIntSS (entry A_lw_eqIntSS x)).map (keepRet tt K_lw_eqIntSS)).ev = ((T_lw_eqIntSS x.1 x.2.1).map fun r => some ((((r, ()), ())) : K_lw_eqIntSS.T)).ev := fun _ => by kernel_rfl

noncomputable def B_lw_eqIntSS_0 : Code := ((loopsOf C_lw_eqIntSS).find? fun p => Nat.beq p.1 0).elim .skip (·.2)
theorem l_lw_eqIntSS_0 : DL_lw_eqIntSS_0.OK E_lw_eqIntSS tt Z_lw_eqIntSS (orcOf O_lw_eqIntSS) B_lw_eqIntSS_0 where
  ok := by kernel_rfl
  oke := by kernel_rfl
  okr := by kernel_rfl
  eta := fun _ => rfl
  step := fun _ _ => by kernel_rfl

theorem o_lw_eqIntSS : LoopsOK E_lw_eqIntSS tt Z_lw_eqIntSS O_lw_eqIntSS C_lw_eqIntSS := by
  have h : loopsOf C_lw_eqIntSS = [(0, B_lw_eqIntSS_0)] := by kernel_rfl
  unfold LoopsOK
  rw [h]
  exact List.forall_mem_cons.2 ⟨⟨DL_lw_eqIntSS_0, rfl, l_lw_eqIntSS_0⟩, fun _ h => absurd h List.not_mem_nil⟩

theorem ok_lw_eqIntSS : FnOK prog E_lw_eqIntSS tt 14 D_lw_eqIntSS K_lw_eqIntSS Z_lw_eqIntSS O_lw_eqIntSS f14 C_lw_eqIntSS (fun x => T_lw_eqIntSS x.1 x.2.1) (fun r => ((r, ()), ())) where
  at_ := func14
  name := by kernel_rfl
  body := by kernel_rfl
  res := by kernel_rfl
  ok := by kernel_rfl
  arity := fun _ => Nat.le_of_ble_eq_true (by kernel_rfl)
  chk := by kernel_rfl
  loops := o_lw_eqIntSS
  run := e_lw_eqIntSS
  F := fun _ => rfl
  emb := fun _ => rfl

theorem fd_lw_eqIntSS : FDok prog (14, D_lw_eqIntSS) := fn_ok mixed (env_ok (List.forall_mem_cons.2 ⟨fd_lw_eqIntS, fun _ h => absurd h List.not_mem_nil⟩)) tabOK ok_lw_eqIntSS

theorem e_lw_FnExactIsGround : ∀ x : A_lw_FnExactIsGround.I, ((acode E_lw_FnExactIsGround tt Z_lw_FnExactIsGround (orcOf O_lw_FnExactIsGround) C_lw_FnExactIsGround (entry A_lw_FnExactIsGround x)).map (keepRet tt K_lw_FnExactIsGround)).ev = ((T_lw_FnExactIsGround x.1).map fun r => some ((((r, ()), ())) : K_lw_FnExactIsGround.T)).ev := fun _ => by kernel_rfl

theorem o_lw_FnExactIsGround : LoopsOK E_lw_FnExactIsGround tt Z_lw_FnExactIsGround O_lw_FnExactIsGround C_lw_FnExactIsGround := by
  have h : loopsOf C_lw_FnExactIsGround = [] := by kernel_rfl
  unfold LoopsOK
  rw [h]
  exact fun _ h => absurd h List.not_mem_nil

theorem ok_lw_FnExactIsGround : FnOK prog E_lw_FnExactIsGround tt 3 D_lw_FnExactIsGround K_lw_FnExactIsGround Z_lw_FnExactIsGround O_lw_FnExactIsGround f3 C_lw_FnExactIsGround (fun x => T_lw_FnExactIsGround x.1) (fun r => ((r, ()), ())) where
  at_ := func3
  name := by kernel_rfl
  body := by kernel_rfl
  res := by kernel_rfl
  ok := by kernel_rfl
  arity := fun _ => Nat.le_of_ble_eq_true (by kernel_rfl)
  chk := by kernel_rfl
  loops := o_lw_FnExactIsGround
  run := e_lw_FnExactIsGround
  F := fun _ => rfl
  emb := fun _ => rfl

theorem fd_lw_FnExactIsGround : FDok prog (3, D_lw_FnExactIsGround) := fn_ok mixed (env_ok (List.forall_mem_cons.2 ⟨fd_lw_szIntSS, List.forall_mem_cons.2 ⟨fd_lw_toIntSS, List.forall_mem_cons.2 ⟨fd_sp_IsGround, List.forall_mem_cons.2 ⟨fd_im_IsGround, List.forall_mem_cons.2 ⟨fd_lw_eqIntSS, fun _ h => absurd h List.not_mem_nil⟩⟩⟩⟩⟩)) tabOK ok_lw_FnExactIsGround

theorem e_sp_l11Small : ∀ x : A_sp_l11Small.I, ((acode E_sp_l11Small tt Z_sp_l11Small (orcOf O_sp_l11Small) C_sp_l11Small (entry A_sp_l11Small x)).map (keepRet tt K_sp_l11Small)).ev = ((T_sp_l11Small x.1).map fun r => some ((((r, ()), ())) : K_sp_l11Small.T)).ev := fun _ => by kernel_rfl

theorem o_sp_l11Small : LoopsOK E_sp_l11Small tt Z_sp_l11Small O_sp_l11Small C_sp_l11Small := by
  have h : loopsOf C_sp_l11Small = [] := by kernel_rfl
  unfold LoopsOK
  rw [h]
  exact fun _ h => absurd h List.not_mem_nil

theorem ok_sp_l11Small : FnOK prog E_sp_l11Small tt 37 D_sp_l11Small K_sp_l11Small Z_sp_l11Small O_sp_l11Small f37 C_sp_l11Small (fun x => T_sp_l11Small x.1) (fun r => ((r, ()), ())) where
  at_ := func37
  name := by kernel_rfl
  body := by kernel_rfl
  res := by kernel_rfl
  ok := by kernel_rfl
  arity := fun _ => Nat.le_of_ble_eq_true (by kernel_rfl)
  chk := by kernel_rfl
  loops := o_sp_l11Small
  run := e_sp_l11Small
  F := fun _ => rfl
  emb := fun _ => rfl

theorem fd_sp_l11Small : FDok prog (37, D_sp_l11Small) := fn_ok mixed (env_ok (List.forall_mem_cons.2 ⟨fd_sp_l11Ground, fun _ h => absurd h List.not_mem_nil⟩)) tabOK ok_sp_l11Small

theorem e_sp_l11Hubs : ∀ x : A_sp_l11Hubs.I, ((acode E_sp_l11Hubs tt Z_sp_l11Hubs (orcOf O_sp_l11Hubs) C_sp_l11Hubs (entry A_sp_l11Hubs x)).map (keepRet tt K_sp_l11Hubs)).ev = ((T_sp_l11Hubs x.1 x.2.1).map fun r => some ((((r, ()), ())) : K_sp_l11Hubs.T)).ev := fun _ => by kernel_rfl

noncomputable def B_sp_l11Hubs_0 : Code := ((loopsOf C_sp_l11Hubs).find? fun p => Nat.beq p.1 0).elim .skip (·.2)
theorem l_sp_l11Hubs_0 : DL_sp_l11Hubs_0.OK E_sp_l11Hubs tt Z_sp_l11Hubs (orcOf O_sp_l11Hubs) B_sp_l11Hubs_0 where
  ok := by kernel_rfl
  oke := by kernel_rfl
  okr := by kernel_rfl
  eta := fun _ => rfl
  step := fun _ _ => by kernel_rfl

noncomputable def B_sp_l11Hubs_2 : Code := ((loopsOf C_sp_l11Hubs).find? fun p => Nat.beq p.1 2).elim .skip (·.2)
theorem l_sp_l11Hubs_2 : DL_sp_l11Hubs_2.OK E_sp_l11Hubs tt Z_sp_l11Hubs (orcOf O_sp_l11Hubs) B_sp_l11Hubs_2 where
  ok := by kernel_rfl
  oke := by kernel_rfl
  okr := by kernel_rfl
  eta := fun _ => rfl
  step := fun _ _ => by kernel_rfl

theorem o_sp_l11Hubs : LoopsOK E_sp_l11Hubs tt Z_sp_l11Hubs O_sp_l11Hubs C_sp_l11Hubs := by
  have h : loopsOf C_sp_l11Hubs = [(0, B_sp_l11Hubs_0), (2, B_sp_l11Hubs_2)] := by kernel_rfl
  unfold LoopsOK
  rw [h]
  exact List.forall_mem_cons.2 ⟨⟨DL_sp_l11Hubs_0, rfl, l_sp_l11Hubs_0⟩, List.forall_mem_cons.2 ⟨⟨DL_sp_l11Hubs_2, rfl, l_sp_l11Hubs_2⟩, fun _ h => absurd h List.not_mem_nil⟩⟩

theorem ok_sp_l11Hubs : FnOK prog E_sp_l11Hubs tt 38 D_sp_l11Hubs K_sp_l11Hubs Z_sp_l11Hubs O_sp_l11Hubs f38 C_sp_l11Hubs (fun x => T_sp_l11Hubs x.1 x.2.1) (fun r => ((r, ()), ())) where
  at_ := func38
  name := by kernel_rfl
  body := by kernel_rfl
  res := by kernel_rfl
  ok := by kernel_rfl
  arity := fun _ => Nat.le_of_ble_eq_true (by kernel_rfl)
  chk := by kernel_rfl
  loops := o_sp_l11Hubs
  run := e_sp_l11Hubs
  F := fun _ => rfl
  emb := fun _ => rfl

theorem fd_sp_l11Hubs : FDok prog (38, D_sp_l11Hubs) := fn_ok mixed (env_ok (List.forall_mem_cons.2 ⟨fd_sp_l1In, fun _ h => absurd h List.not_mem_nil⟩)) tabOK ok_sp_l11Hubs

theorem e_sp_IsAllocation : ∀ x : A_sp_IsAllocation.I, ((acode E_sp_IsAllocation tt Z_sp_IsAllocation (orcOf O_sp_IsAllocation) C_sp_IsAllocation (entry A_sp_IsAllocation x)).map (keepRet tt K_sp_IsAllocation)).ev = ((T_sp_IsAllocation x.1 x.2.1).map fun r => some ((((r.1, (r.2, ())), ())) : K_sp_IsAllocation.T)).ev := fun _ => by kernel_rfl

theorem o_sp_IsAllocation : LoopsOK E_sp_IsAllocation tt Z_sp_IsAllocation O_sp_IsAllocation C_sp_IsAllocation := by
  have h : loopsOf C_sp_IsAllocation = [] := by kernel_rfl
  unfold LoopsOK
  rw [h]
  exact fun _ h => absurd h List.not_mem_nil

theorem ok_sp_IsAllocation : FnOK prog E_sp_IsAllocation tt 15 D_sp_IsAllocation K_sp_IsAllocation Z_sp_IsAllocation O_sp_IsAllocation f15 C_sp_IsAllocation (fun x => T_sp_IsAllocation x.1 x.2.1) (fun r => ((r.1, (r.2, ())), ())) where
  at_ := func15
  name := by kernel_rfl
  body := by kernel_rfl
  res := by kernel_rfl
  ok := by kernel_rfl
  arity := fun _ => Nat.le_of_ble_eq_true (by kernel_rfl)
  chk := by kernel_rfl
  loops := o_sp_IsAllocation
  run := e_sp_IsAllocation
  F := fun _ => rfl
  emb := fun _ => rfl

theorem fd_sp_IsAllocation : FDok prog (15, D_sp_IsAllocation) := fn_ok mixed (env_ok (List.forall_mem_cons.2 ⟨fd_sp_l11Small, List.forall_mem_cons.2 ⟨fd_sp_l11Hubs, fun _ h => absurd h List.not_mem_nil⟩⟩)) tabOK ok_sp_IsAllocation

theorem e_im_isNet : ∀ x : A_im_isNet.I, ((acode E_im_isNet tt Z_im_isNet (orcOf O_im_isNet) C_im_isNet (entry A_im_isNet x)).map (keepRet tt K_im_isNet)).ev = ((T_im_isNet x.1).map fun r => some ((((r, ()), ())) : K_im_isNet.T)).ev := fun _ => by kernel_rfl

theorem o_im_isNet : LoopsOK E_im_isNet tt Z_im_isNet O_im_isNet C_im_isNet := by
  have h : loopsOf C_im_isNet = [] := by kernel_rfl
  unfold LoopsOK
  rw [h]
  exact fun _ h => absurd h List.not_mem_nil

theorem ok_im_isNet : FnOK prog E_im_isNet tt 39 D_im_isNet K_im_isNet Z_im_isNet O_im_isNet f39 C_im_isNet (fun x => T_im_isNet x.1) (fun r => ((r, ()), ())) where
  at_ := func39
  name := by kernel_rfl
  body := by kernel_rfl
  res := by kernel_rfl
  ok := by kernel_rfl
  arity := fun _ => Nat.le_of_ble_eq_true (by kernel_rfl)
  chk := by kernel_rfl
  loops := o_im_isNet
  run := e_im_isNet
  F := fun _ => rfl
  emb := fun _ => rfl

theorem fd_im_isNet : FDok prog (39, D_im_isNet) := fn_ok mixed (env_ok (List.forall_mem_cons.2 ⟨fd_im_IsGround, fun _ h => absurd h List.not_mem_nil⟩)) tabOK ok_im_isNet

theorem e_im_isAllocation_1 : ∀ x : A_im_isAllocation_1.I, ((acode E_im_isAllocation_1 tt Z_im_isAllocation_1 (orcOf O_im_isAllocation_1) C_im_isAllocation_1 (entry A_im_isAllocation_1 x)).map (keepRet tt K_im_isAllocation_1)).ev = ((T_im_isAllocation_1 x.1 x.2.1.1).map fun r => some ((((r, ()), ())) : K_im_isAllocation_1.T)).ev := fun _ => by kernel_rfl

theorem o_im_isAllocation_1 : LoopsOK E_im_isAllocation_1 tt Z_im_isAllocation_1 O_im_isAllocation_1 C_im_isAllocation_1 := by
  have h : loopsOf C_im_isAllocation_1 = [] := by kernel_rfl
  unfold LoopsOK
  rw [h]
  exact fun _ h => absurd h List.not_mem_nil

theorem ok_im_isAllocation_1 : FnOK prog E_im_isAllocation_1 tt 63 D_im_isAllocation_1 K_im_isAllocation_1 Z_im_isAllocation_1 O_im_isAllocation_1 f63 C_im_isAllocation_1 (fun x => T_im_isAllocation_1 x.1 x.2.1.1) (fun r => ((r, ()), ())) where
  at_ := func63
  name := by kernel_rfl
  body := by kernel_rfl
  res := by kernel_rfl
  ok := by kernel_rfl
  arity := fun _ => Nat.le_of_ble_eq_true (by kernel_rfl)
  chk := by kernel_rfl
  loops := o_im_isAllocation_1
  run := e_im_isAllocation_1
  F := fun _ => rfl
  emb := fun _ => rfl

theorem fd_im_isAllocation_1 : FDok prog (63, D_im_isAllocation_1) := fn_ok mixed (env_ok (fun _ h => absurd h List.not_mem_nil)) tabOK ok_im_isAllocation_1

theorem e_im_isAllocation : ∀ x : A_im_isAllocation.I, ((acode E_im_isAllocation tt Z_im_isAllocation (orcOf O_im_isAllocation) C_im_isAllocation (entry A_im_isAllocation x)).map (keepRet tt K_im_isAllocation)).ev = ((T_im_isAllocation x.1 x.2.1).map fun r => some ((((r, ()), ())) : K_im_isAllocation.T)).ev := fun _ => by kernel_rfl

theorem o_im_isAllocation : LoopsOK E_im_isAllocation tt Z_im_isAllocation O_im_isAllocation C_im_isAllocation := by
  have h : loopsOf C_im_isAllocation = [] := by kernel_rfl
  unfold LoopsOK
  rw [h]
  exact fun _ h => absurd h List.not_mem_nil

theorem ok_im_isAllocation : FnOK prog E_im_isAllocation tt 40 D_im_isAllocation K_im_isAllocation Z_im_isAllocation O_im_isAllocation f40 C_im_isAllocation (fun x => T_im_isAllocation x.1 x.2.1) (fun r => ((r, ()), ())) where
  at_ := func40
  name := by kernel_rfl
  body := by kernel_rfl
  res := by kernel_rfl
  ok := by kernel_rfl
  arity := fun _ => Nat.le_of_ble_eq_true (by kernel_rfl)
  chk := by kernel_rfl
  loops := o_im_isAllocation
  run := e_im_isAllocation
  F := fun _ => rfl
  emb := fun _ => rfl

theorem fd_im_isAllocation : FDok prog (40, D_im_isAllocation) := fn_ok mixed (env_ok (List.forall_mem_cons.2 ⟨fd_im_areBetween, List.forall_mem_cons.2 ⟨fd_slices_ContainsFunc_Sint_int, List.forall_mem_cons.2 ⟨fd_im_isAllocation_1, fun _ h => absurd h List.not_mem_nil⟩⟩⟩)) tabOK ok_im_isAllocation

theorem e_im_IsAllocation : ∀ x : A_im_IsAllocation.I, ((acode E_im_IsAllocation tt Z_im_IsAllocation (orcOf O_im_IsAllocation) C_im_IsAllocation (entry A_im_IsAllocation x)).map (keepRet tt K_im_IsAllocation)).ev = ((T_im_IsAllocation x.1 x.2.1).map fun r => some ((((r.1, (r.2, ())), ())) : K_im_IsAllocation.T)).ev := fun _ => by kernel_rfl

theorem o_im_IsAllocation : LoopsOK E_im_IsAllocation tt Z_im_IsAllocation O_im_IsAllocation C_im_IsAllocation := by
  have h : loopsOf C_im_IsAllocation = [] := by kernel_rfl
  unfold LoopsOK
  rw [h]
  exact fun _ h => absurd h List.not_mem_nil

theorem ok_im_IsAllocation : FnOK prog E_im_IsAllocation tt 17 D_im_IsAllocation K_im_IsAllocation Z_im_IsAllocation O_im_IsAllocation f17 C_im_IsAllocation (fun x => T_im_IsAllocation x.1 x.2.1) (fun r => ((r.1, (r.2, ())), ())) where
  at_ := func17
  name := by kernel_rfl
  body := by kernel_rfl
  res := by kernel_rfl
  ok := by kernel_rfl
  arity := fun _ => Nat.le_of_ble_eq_true (by kernel_rfl)
  chk := by kernel_rfl
  loops := o_im_IsAllocation
  run := e_im_IsAllocation
  F := fun _ => rfl
  emb := fun _ => rfl

theorem fd_im_IsAllocation : FDok prog (17, D_im_IsAllocation) := fn_ok mixed (env_ok (List.forall_mem_cons.2 ⟨fd_im_isNet, List.forall_mem_cons.2 ⟨fd_im_isAllocation, fun _ h => absurd h List.not_mem_nil⟩⟩)) tabOK ok_im_IsAllocation

theorem e_lw_FnExactIsAllocation : ∀ x : A_lw_FnExactIsAllocation.I, ((acode E_lw_FnExactIsAllocation tt Z_lw_FnExactIsAllocation (orcOf O_lw_FnExactIsAllocation) C_lw_FnExactIsAllocation (entry A_lw_FnExactIsAllocation x)).map (keepRet tt K_lw_FnExactIsAllocation)).ev = ((T_lw_FnExactIsAllocation x.1 x.2.1).map fun r => some ((((r, ()), ())) : K_lw_FnExactIsAllocation.T)).ev := fun _ => by kernel_rfl

theorem o_lw_FnExactIsAllocation : LoopsOK E_lw_FnExactIsAllocation tt Z_lw_FnExactIsAllocation O_lw_FnExactIsAllocation C_lw_FnExactIsAllocation := by
  have h : loopsOf C_lw_FnExactIsAllocation = [] := by kernel_rfl
  unfold LoopsOK
  rw [h]
  exact fun _ h => absurd h List.not_mem_nil

theorem ok_lw_FnExactIsAllocation : FnOK prog E_lw_FnExactIsAllocation tt 4 D_lw_FnExactIsAllocation K_lw_FnExactIsAllocation Z_lw_FnExactIsAllocation O_lw_FnExactIsAllocation f4 C_lw_FnExactIsAllocation (fun x => T_lw_FnExactIsAllocation x.1 x.2.1) (fun r => ((r, ()), ())) where
  at_ := func4
  name := by kernel_rfl
  body := by kernel_rfl
  res := by kernel_rfl
  ok := by kernel_rfl
  arity := fun _ => Nat.le_of_ble_eq_true (by kernel_rfl)
  chk := by kernel_rfl
  loops := o_lw_FnExactIsAllocation
  run := e_lw_FnExactIsAllocation
  F := fun _ => rfl
  emb := fun _ => rfl

theorem fd_lw_FnExactIsAllocation : FDok prog (4, D_lw_FnExactIsAllocation) := fn_ok mixed (env_ok (List.forall_mem_cons.2 ⟨fd_lw_szIntSS, List.forall_mem_cons.2 ⟨fd_lw_toIntSS, List.forall_mem_cons.2 ⟨fd_lw_toIntS, List.forall_mem_cons.2 ⟨fd_sp_IsAllocation, List.forall_mem_cons.2 ⟨fd_im_IsAllocation, List.forall_mem_cons.2 ⟨fd_lw_eqIntSS, List.forall_mem_cons.2 ⟨fd_lw_eqIntS, fun _ h => absurd h List.not_mem_nil⟩⟩⟩⟩⟩⟩⟩)) tabOK ok_lw_FnExactIsAllocation

theorem e_sp_l11Metric : ∀ x : A_sp_l11Metric.I, ((acode E_sp_l11Metric tt Z_sp_l11Metric (orcOf O_sp_l11Metric) C_sp_l11Metric (entry A_sp_l11Metric x)).map (keepRet tt K_sp_l11Metric)).ev = ((T_sp_l11Metric x.1).map fun r => some ((((r, ()), ())) : K_sp_l11Metric.T)).ev := fun _ => by kernel_rfl

noncomputable def B_sp_l11Metric_4 : Code := ((loopsOf C_sp_l11Metric).find? fun p => Nat.beq p.1 4).elim .skip (·.2)
theorem l_sp_l11Metric_4 : DL_sp_l11Metric_4.OK E_sp_l11Metric tt Z_sp_l11Metric (orcOf O_sp_l11Metric) B_sp_l11Metric_4 where
  ok := by kernel_rfl
  oke := by kernel_rfl
  okr := by kernel_rfl
  eta := fun _ => rfl
  step := fun _ _ => by kernel_rfl

noncomputable def B_sp_l11Metric_2 : Code := ((loopsOf C_sp_l11Metric).find? fun p => Nat.beq p.1 2).elim .skip (·.2)
theorem l_sp_l11Metric_2 : DL_sp_l11Metric_2.OK E_sp_l11Metric tt Z_sp_l11Metric (orcOf O_sp_l11Metric) B_sp_l11Metric_2 where
  ok := by kernel_rfl
  oke := by kernel_rfl
  okr := by kernel_rfl
  eta := fun _ => rfl
  step := fun _ _ => by kernel_rfl

noncomputable def B_sp_l11Metric_0 : Code := ((loopsOf C_sp_l11Metric).find? fun p => Nat.beq p.1 0).elim .skip (·.2)
theorem l_sp_l11Metric_0 : DL_sp_l11Metric_0.OK E_sp_l11Metric tt Z_sp_l11Metric (orcOf O_sp_l11Metric) B_sp_l11Metric_0 where
  ok := by kernel_rfl
  oke := by kernel_rfl
  okr := by kernel_rfl
  eta := fun _ => rfl
  step := fun _ _ => by kernel_rfl

theorem o_sp_l11Metric : LoopsOK E_sp_l11Metric tt Z_sp_l11Metric O_sp_l11Metric C_sp_l11Metric := by
  have h : loopsOf C_sp_l11Metric = [(0, B_sp_l11Metric_0), (2, B_sp_l11Metric_2), (4, B_sp_l11Metric_4)] := by kernel_rfl
  unfold LoopsOK
  rw [h]
  exact List.forall_mem_cons.2 ⟨⟨DL_sp_l11Metric_0, rfl, l_sp_l11Metric_0⟩, List.forall_mem_cons.2 ⟨⟨DL_sp_l11Metric_2, rfl, l_sp_l11Metric_2⟩, List.forall_mem_cons.2 ⟨⟨DL_sp_l11Metric_4, rfl, l_sp_l11Metric_4⟩, fun _ h => absurd h List.not_mem_nil⟩⟩⟩

theorem ok_sp_l11Metric : FnOK prog E_sp_l11Metric tt 41 D_sp_l11Metric K_sp_l11Metric Z_sp_l11Metric O_sp_l11Metric f41 C_sp_l11Metric (fun x => T_sp_l11Metric x.1) (fun r => ((r, ()), ())) where
  at_ := func41
  name := by kernel_rfl
  body := by kernel_rfl
  res := by kernel_rfl
  ok := by kernel_rfl
  arity := fun _ => Nat.le_of_ble_eq_true (by kernel_rfl)
  chk := by kernel_rfl
  loops := o_sp_l11Metric
  run := e_sp_l11Metric
  F := fun _ => rfl
  emb := fun _ => rfl

theorem fd_sp_l11Metric : FDok prog (41, D_sp_l11Metric) := fn_ok mixed (env_ok (fun _ h => absurd h List.not_mem_nil)) tabOK ok_sp_l11Metric

theorem e_sp_IsMetricGround : ∀ x : A_sp_IsMetricGround.I, ((acode E_sp_IsMetricGround tt Z_sp_IsMetricGround (orcOf O_sp_IsMetricGround) C_sp_IsMetricGround (entry A_sp_IsMetricGround x)).map (keepRet tt K_sp_IsMetricGround)).ev = ((T_sp_IsMetricGround x.1).map fun r => some ((((r.1, (r.2, ())), ())) : K_sp_IsMetricGround.T)).ev := fun _ => by kernel_rfl

theorem o_sp_IsMetricGround : LoopsOK E_sp_IsMetricGround tt Z_sp_IsMetricGround O_sp_IsMetricGround C_sp_IsMetricGround := by
  have h : loopsOf C_sp_IsMetricGround = [] := by kernel_rfl
  unfold LoopsOK
  rw [h]
  exact fun _ h => absurd h List.not_mem_nil

theorem ok_sp_IsMetricGround : FnOK prog E_sp_IsMetricGround tt 19 D_sp_IsMetricGround K_sp_IsMetricGround Z_sp_IsMetricGround O_sp_IsMetricGround f19 C_sp_IsMetricGround (fun x => T_sp_IsMetricGround x.1) (fun r => ((r.1, (r.2, ())), ())) where
  at_ := func19
  name := by kernel_rfl
  body := by kernel_rfl
  res := by kernel_rfl
  ok := by kernel_rfl
  arity := fun _ => Nat.le_of_ble_eq_true (by kernel_rfl)
  chk := by kernel_rfl
  loops := o_sp_IsMetricGround
  run := e_sp_IsMetricGround
  F := fun _ => rfl
  emb := fun _ => rfl

theorem fd_sp_IsMetricGround : FDok prog (19, D_sp_IsMetricGround) := fn_ok mixed (env_ok (List.forall_mem_cons.2 ⟨fd_sp_l11Ground, List.forall_mem_cons.2 ⟨fd_sp_l11Metric, fun _ h => absurd h List.not_mem_nil⟩⟩)) tabOK ok_sp_IsMetricGround

theorem e_im_IsMetricGround : ∀ x : A_im_IsMetricGround.I, ((acode E_im_IsMetricGround tt Z_im_IsMetricGround (orcOf O_im_IsMetricGround) C_im_IsMetricGround (entry A_im_IsMetricGround x)).map (keepRet tt K_im_IsMetricGround)).ev = ((T_im_IsMetricGround x.1).map fun r => some ((((r.1, (r.2, ())), ())) : K_im_IsMetricGround.T)).ev := fun _ => by kernel_rfl

noncomputable def B_im_IsMetricGround_4 : Code := ((loopsOf C_im_IsMetricGround).find? fun p => Nat.beq p.1 4).elim .skip (·.2)
theorem l_im_IsMetricGround_4 : DL_im_IsMetricGround_4.OK E_im_IsMetricGround tt Z_im_IsMetricGround (orcOf O_im_IsMetricGround) B_im_IsMetricGround_4 where
  ok := by kernel_rfl
  oke := by kernel_rfl
  okr := by kernel_rfl
  eta := fun _ => rfl
  step := fun _ _ => by kernel_rfl

noncomputable def B_im_IsMetricGround_2 : Code := ((loopsOf C_im_IsMetricGround).find? fun p => Nat.beq p.1 2).elim .skip (·.2)
theorem l_im_IsMetricGround_2 : DL_im_IsMetricGround_2.OK E_im_IsMetricGround tt Z_im_IsMetricGround (orcOf O_im_IsMetricGround) B_im_IsMetricGround_2 where
  ok := by kernel_rfl
  oke := by kernel_rfl
  okr := by kernel_rfl
  eta := fun _ => rfl
  step := fun _ _ => by kernel_rfl

noncomputable def B_im_IsMetricGround_0 : Code := ((loopsOf C_im_IsMetricGround).find? fun p => Nat.beq p.1 0).elim .skip (·.2)
theorem l_im_IsMetricGround_0 : DL_im_IsMetricGround_0.OK E_im_IsMetricGround tt Z_im_IsMetricGround (orcOf O_im_IsMetricGround) B_im_IsMetricGround_0 where
  ok := by kernel_rfl
  oke := by kernel_rfl
  okr := by kernel_rfl
  eta := fun _ => rfl
  step := fun _ _ => by kernel_rfl

theorem o_im_IsMetricGround : LoopsOK E_im_IsMetricGround tt Z_im_IsMetricGround O_im_IsMetricGround C_im_IsMetricGround := by
  have h : loopsOf C_im_IsMetricGround = [(0, B_im_IsMetricGround_0), (2, B_im_IsMetricGround_2), (4, B_im_IsMetricGround_4)] := by kernel_rfl
  unfold LoopsOK
  rw [h]
  exact List.forall_mem_cons.2 ⟨⟨DL_im_IsMetricGround_0, rfl, l_im_IsMetricGround_0⟩, List.forall_mem_cons.2 ⟨⟨DL_im_IsMetricGround_2, rfl, l_im_IsMetricGround_2⟩, List.forall_mem_cons.2 ⟨⟨DL_im_IsMetricGround_4, rfl, l_im_IsMetricGround_4⟩, fun _ h => absurd h List.not_mem_nil⟩⟩⟩

theorem ok_im_IsMetricGround : FnOK prog E_im_IsMetricGround tt 20 D_im_IsMetricGround K_im_IsMetricGround Z_im_IsMetricGround O_im_IsMetricGround f20 C_im_IsMetricGround (fun x => T_im_IsMetricGround x.1) (fun r => ((r.1, (r.2, ())), ())) where
  at_ := func20
  name := by kernel_rfl
  body := by kernel_rfl
  res := by kernel_rfl
  ok := by kernel_rfl
  arity := fun _ => Nat.le_of_ble_eq_true (by kernel_rfl)
  chk := by kernel_rfl
  loops := o_im_IsMetricGround
  run := e_im_IsMetricGround
  F := fun _ => rfl
  emb := fun _ => rfl

theorem fd_im_IsMetricGround : FDok prog (20, D_im_IsMetricGround) := fn_ok mixed (env_ok (List.forall_mem_cons.2 ⟨fd_im_IsGround, fun _ h => absurd h List.not_mem_nil⟩)) tabOK ok_im_IsMetricGround

theorem e_lw_FnExactIsMetricGround : ∀ x : A_lw_FnExactIsMetricGround.I, ((acode E_lw_FnExactIsMetricGround tt Z_lw_FnExactIsMetricGround (orcOf O_lw_FnExactIsMetricGround) C_lw_FnExactIsMetricGround (entry A_lw_FnExactIsMetricGround x)).map (keepRet tt K_lw_FnExactIsMetricGround)).ev = ((T_lw_FnExactIsMetricGround x.1).map fun r => some ((((r, ()), ())) : K_lw_FnExactIsMetricGround.T)).ev := fun _ => by kernel_rfl

theorem o_lw_FnExactIsMetricGround : LoopsOK E_lw_FnExactIsMetricGround tt Z_lw_FnExactIsMetricGround O_lw_FnExactIsMetricGround C_lw_FnExactIsMetricGround := by
  have h : loopsOf C_lw_FnExactIsMetricGround = [] := by kernel_rfl
  unfold LoopsOK
  rw [h]
  exact fun _ h => absurd h List.not_mem_nil

theorem ok_lw_FnExactIsMetricGround : FnOK prog E_lw_FnExactIsMetricGround tt 5 D_lw_FnExactIsMetricGround K_lw_FnExactIsMetricGround Z_lw_FnExactIsMetricGround O_lw_FnExactIsMetricGround f5 C_lw_FnExactIsMetricGround (fun x => T_lw_FnExactIsMetricGround x.1) (fun r => ((r, ()), ())) where
  at_ := func5
  name := by kernel_rfl
  body := by kernel_rfl
  res := by kernel_rfl
  ok := by kernel_rfl
  arity := fun _ => Nat.le_of_ble_eq_true (by kernel_rfl)
  chk := by kernel_rfl
  loops := o_lw_FnExactIsMetricGround
  run := e_lw_FnExactIsMetricGround
  F := fun _ => rfl
  emb := fun _ => rfl

theorem fd_lw_FnExactIsMetricGround : FDok prog (5, D_lw_FnExactIsMetricGround) := fn_ok mixed (env_ok (List.forall_mem_cons.2 ⟨fd_lw_szIntSS, List.forall_mem_cons.2 ⟨fd_lw_toIntSS, List.forall_mem_cons.2 ⟨fd_sp_IsMetricGround, List.forall_mem_cons.2 ⟨fd_im_IsMetricGround, List.forall_mem_cons.2 ⟨fd_lw_eqIntSS, fun _ h => absurd h List.not_mem_nil⟩⟩⟩⟩⟩)) tabOK ok_lw_FnExactIsMetricGround

theorem e_sp_l1Rising : ∀ x : A_sp_l1Rising.I, ((acode E_sp_l1Rising tt Z_sp_l1Rising (orcOf O_sp_l1Rising) C_sp_l1Rising (entry A_sp_l1Rising x)).map (keepRet tt K_sp_l1Rising)).ev = ((T_sp_l1Rising x.1 x.2.1 x.2.2.1).map fun r => some ((((r, ()), ())) : K_sp_l1Rising.T)).ev := fun _ => by kernel_rfl

noncomputable def B_sp_l1Rising_0 : Code := ((loopsOf C_sp_l1Rising).find? fun p => Nat.beq p.1 0).elim .skip (·.2)
theorem l_sp_l1Rising_0 : DL_sp_l1Rising_0.OK E_sp_l1Rising tt Z_sp_l1Rising (orcOf O_sp_l1Rising) B_sp_l1Rising_0 where
  ok := by kernel_rfl
  oke := by kernel_rfl
  okr := by kernel_rfl
  eta := fun _ => rfl
  step := fun _ _ => by kernel_rfl

theorem o_sp_l1Rising : LoopsOK E_sp_l1Rising tt Z_sp_l1Rising O_sp_l1Rising C_sp_l1Rising := by
  have h : loopsOf C_sp_l1Rising = [(0, B_sp_l1Rising_0)] := by kernel_rfl
  unfold LoopsOK
  rw [h]
  exact List.forall_mem_cons.2 ⟨⟨DL_sp_l1Rising_0, rfl, l_sp_l1Rising_0⟩, fun _ h => absurd h List.not_mem_nil⟩

theorem ok_sp_l1Rising : FnOK prog E_sp_l1Rising tt 45 D_sp_l1Rising K_sp_l1Rising Z_sp_l1Rising O_sp_l1Rising f45 C_sp_l1Rising (fun x => T_sp_l1Rising x.1 x.2.1 x.2.2.1) (fun r => ((r, ()), ())) where
  at_ := func45
  name := by kernel_rfl
  body := by kernel_rfl
  res := by kernel_rfl
  ok := by kernel_rfl
  arity := fun _ => Nat.le_of_ble_eq_true (by kernel_rfl)
  chk := by kernel_rfl
  loops := o_sp_l1Rising
  run := e_sp_l1Rising
  F := fun _ => rfl
  emb := fun _ => rfl

theorem fd_sp_l1Rising : FDok prog (45, D_sp_l1Rising) := fn_ok mixed (env_ok (List.forall_mem_cons.2 ⟨fd_sp_l1In, fun _ h => absurd h List.not_mem_nil⟩)) tabOK ok_sp_l1Rising

theorem e_sp_l1Least : ∀ x : A_sp_l1Least.I, ((acode E_sp_l1Least tt Z_sp_l1Least (orcOf O_sp_l1Least) C_sp_l1Least (entry A_sp_l1Least x)).map (keepRet tt K_sp_l1Least)).ev = ((T_sp_l1Least x.1 x.2.1).map fun r => some ((((r, ()), ())) : K_sp_l1Least.T)).ev := fun _ => by kernel_rfl

theorem o_sp_l1Least : LoopsOK E_sp_l1Least tt Z_sp_l1Least O_sp_l1Least C_sp_l1Least := by
  have h : loopsOf C_sp_l1Least = [] := by kernel_rfl
  unfold LoopsOK
  rw [h]
  exact fun _ h => absurd h List.not_mem_nil

theorem ok_sp_l1Least : FnOK prog E_sp_l1Least tt 67 D_sp_l1Least K_sp_l1Least Z_sp_l1Least O_sp_l1Least f67 C_sp_l1Least (fun x => T_sp_l1Least x.1 x.2.1) (fun r => ((r, ()), ())) where
  at_ := func67
  name := by kernel_rfl
  body := by kernel_rfl
  res := by kernel_rfl
  ok := by kernel_rfl
  arity := fun _ => Nat.le_of_ble_eq_true (by kernel_rfl)
  chk := by kernel_rfl
  loops := o_sp_l1Least
  run := e_sp_l1Least
  F := fun _ => rfl
  emb := fun _ => rfl

theorem fd_sp_l1Least : FDok prog (67, D_sp_l1Least) := fn_ok mixed (env_ok (fun _ h => absurd h List.not_mem_nil)) tabOK ok_sp_l1Least

theorem e_sp_l11Dispersion : ∀ x : A_sp_l11Dispersion.I, ((acode E_sp_l11Dispersion tt Z_sp_l11Dispersion (orcOf O_sp_l11Dispersion) C_sp_l11Dispersion (entry A_sp_l11Dispersion x)).map (keepRet tt K_sp_l11Dispersion)).ev = ((T_sp_l11Dispersion x.1 x.2.1).map fun r => some ((((r, ()), ())) : K_sp_l11Dispersion.T)).ev := fun _ => by kernel_rfl

noncomputable def B_sp_l11Dispersion_2 : Code := ((loopsOf C_sp_l11Dispersion).find? fun p => Nat.beq p.1 2).elim .skip (·.2)
theorem l_sp_l11Dispersion_2 : DL_sp_l11Dispersion_2.OK E_sp_l11Dispersion tt Z_sp_l11Dispersion (orcOf O_sp_l11Dispersion) B_sp_l11Dispersion_2 where
  ok := by kernel_rfl
  oke := by kernel_rfl
  okr := by kernel_rfl
  eta := fun _ => rfl
  step := fun _ _ => by kernel_rfl

noncomputable def B_sp_l11Dispersion_0 : Code := ((loopsOf C_sp_l11Dispersion).find? fun p => Nat.beq p.1 0).elim .skip (·.2)
theorem l_sp_l11Dispersion_0 : DL_sp_l11Dispersion_0.OK E_sp_l11Dispersion tt Z_sp_l11Dispersion (orcOf O_sp_l11Dispersion) B_sp_l11Dispersion_0 where
  ok := by kernel_rfl
  oke := by kernel_rfl
  okr := by kernel_rfl
  eta := fun _ => rfl
  step := fun _ _ => by kernel_rfl

theorem o_sp_l11Dispersion : LoopsOK E_sp_l11Dispersion tt Z_sp_l11Dispersion O_sp_l11Dispersion C_sp_l11Dispersion := by
  have h : loopsOf C_sp_l11Dispersion = [(0, B_sp_l11Dispersion_0), (2, B_sp_l11Dispersion_2)] := by kernel_rfl
  unfold LoopsOK
  rw [h]
  exact List.forall_mem_cons.2 ⟨⟨DL_sp_l11Dispersion_0, rfl, l_sp_l11Dispersion_0⟩, List.forall_mem_cons.2 ⟨⟨DL_sp_l11Dispersion_2, rfl, l_sp_l11Dispersion_2⟩, fun _ h => absurd h List.not_mem_nil⟩⟩

theorem ok_sp_l11Dispersion : FnOK prog E_sp_l11Dispersion tt 46 D_sp_l11Dispersion K_sp_l11Dispersion Z_sp_l11Dispersion O_sp_l11Dispersion f46 C_sp_l11Dispersion (fun x => T_sp_l11Dispersion x.1 x.2.1) (fun r => ((r, ()), ())) where
  at_ := func46
  name := by kernel_rfl
  body := by kernel_rfl
  res := by kernel_rfl
  ok := by kernel_rfl
  arity := fun _ => Nat.le_of_ble_eq_true (by kernel_rfl)
  chk := by kernel_rfl
  loops := o_sp_l11Dispersion
  run := e_sp_l11Dispersion
  F := fun _ => rfl
  emb := fun _ => rfl

theorem fd_sp_l11Dispersion : FDok prog (46, D_sp_l11Dispersion) := fn_ok mixed (env_ok (List.forall_mem_cons.2 ⟨fd_sp_l1Least, fun _ h => absurd h List.not_mem_nil⟩)) tabOK ok_sp_l11Dispersion

theorem e_sp_DispersionOf : ∀ x : A_sp_DispersionOf.I, ((acode E_sp_DispersionOf tt Z_sp_DispersionOf (orcOf O_sp_DispersionOf) C_sp_DispersionOf (entry A_sp_DispersionOf x)).map (keepRet tt K_sp_DispersionOf)).ev = ((T_sp_DispersionOf x.1 x.2.1).map fun r => some ((((r.1, (r.2, ())), ())) : K_sp_DispersionOf.T)).ev := fun _ => by kernel_rfl

theorem o_sp_DispersionOf : LoopsOK E_sp_DispersionOf tt Z_sp_DispersionOf O_sp_DispersionOf C_sp_DispersionOf := by
  have h : loopsOf C_sp_DispersionOf = [] := by kernel_rfl
  unfold LoopsOK
  rw [h]
  exact fun _ h => absurd h List.not_mem_nil

theorem ok_sp_DispersionOf : FnOK prog E_sp_DispersionOf tt 25 D_sp_DispersionOf K_sp_DispersionOf Z_sp_DispersionOf O_sp_DispersionOf f25 C_sp_DispersionOf (fun x => T_sp_DispersionOf x.1 x.2.1) (fun r => ((r.1, (r.2, ())), ())) where
  at_ := func25
  name := by kernel_rfl
  body := by kernel_rfl
  res := by kernel_rfl
  ok := by kernel_rfl
  arity := fun _ => Nat.le_of_ble_eq_true (by kernel_rfl)
  chk := by kernel_rfl
  loops := o_sp_DispersionOf
  run := e_sp_DispersionOf
  F := fun _ => rfl
  emb := fun _ => rfl

theorem fd_sp_DispersionOf : FDok prog (25, D_sp_DispersionOf) := fn_ok mixed (env_ok (List.forall_mem_cons.2 ⟨fd_sp_l11Ground, List.forall_mem_cons.2 ⟨fd_sp_l1Rising, List.forall_mem_cons.2 ⟨fd_sp_l11Dispersion, fun _ h => absurd h List.not_mem_nil⟩⟩⟩)) tabOK ok_sp_DispersionOf

theorem e_im_isRising : ∀ x : A_im_isRising.I, ((acode E_im_isRising tt Z_im_isRising (orcOf O_im_isRising) C_im_isRising (entry A_im_isRising x)).map (keepRet tt K_im_isRising)).ev = ((T_im_isRising x.1 x.2.1).map fun r => some ((((r, ()), ())) : K_im_isRising.T)).ev := fun _ => by kernel_rfl

noncomputable def B_im_isRising_0 : Code := ((loopsOf C_im_isRising).find? fun p => Nat.beq p.1 0).elim .skip (·.2)
theorem l_im_isRising_0 : DL_im_isRising_0.OK E_im_isRising tt Z_im_isRising (orcOf O_im_isRising) B_im_isRising_0 where
  ok := by kernel_rfl
  oke := by kernel_rfl
  okr := by kernel_rfl
  eta := fun _ => rfl
  step := fun _ _ => by kernel_rfl

theorem o_im_isRising : LoopsOK E_im_isRising tt Z_im_isRising O_im_isRising C_im_isRising := by
  have h : loopsOf C_im_isRising = [(0, B_im_isRising_0)] := by kernel_rfl
  unfold LoopsOK
  rw [h]
  exact List.forall_mem_cons.2 ⟨⟨DL_im_isRising_0, rfl, l_im_isRising_0⟩, fun _ h => absurd h List.not_mem_nil⟩

theorem ok_im_isRising : FnOK prog E_im_isRising tt 47 D_im_isRising K_im_isRising Z_im_isRising O_im_isRising f47 C_im_isRising (fun x => T_im_isRising x.1 x.2.1) (fun r => ((r, ()), ())) where
  at_ := func47
  name := by kernel_rfl
  body := by kernel_rfl
  res := by kernel_rfl
  ok := by kernel_rfl
  arity := fun _ => Nat.le_of_ble_eq_true (by kernel_rfl)
  chk := by kernel_rfl
  loops := o_im_isRising
  run := e_im_isRising
  F := fun _ => rfl
  emb := fun _ => rfl

theorem fd_im_isRising : FDok prog (47, D_im_isRising) := fn_ok mixed (env_ok (List.forall_mem_cons.2 ⟨fd_im_between, fun _ h => absurd h List.not_mem_nil⟩)) tabOK ok_im_isRising

theorem e_im_dispersion : ∀ x : A_im_dispersion.I, ((acode E_im_dispersion tt Z_im_dispersion (orcOf O_im_dispersion) C_im_dispersion (entry A_im_dispersion x)).map (keepRet tt K_im_dispersion)).ev = ((T_im_dispersion x.1 x.2.1).map fun r => some ((((r, ()), ())) : K_im_dispersion.T)).ev := fun _ => by kernel_rfl

noncomputable def B_im_dispersion_2 : Code := ((loopsOf C_im_dispersion).find? fun p => Nat.beq p.1 2).elim .skip (·.2)
theorem l_im_dispersion_2 : DL_im_dispersion_2.OK E_im_dispersion tt Z_im_dispersion (orcOf O_im_dispersion) B_im_dispersion_2 where
  ok := by kernel_rfl
  oke := by kernel_rfl
  okr := by kernel_rfl
  eta := fun _ => rfl
  step := fun _ _ => by kernel_rfl

noncomputable def B_im_dispersion_0 : Code := ((loopsOf C_im_dispersion).find? fun p => Nat.beq p.1 0).elim .skip (·.2)
theorem l_im_dispersion_0 : DL_im_dispersion_0.OK E_im_dispersion tt Z_im_dispersion (orcOf O_im_dispersion) B_im_dispersion_0 where
  ok := by kernel_rfl
  oke := by kernel_rfl
  okr := by kernel_rfl
  eta := fun _ => rfl
  step := fun _ _ => by kernel_rfl

theorem o_im_dispersion : LoopsOK E_im_dispersion tt Z_im_dispersion O_im_dispersion C_im_dispersion := by
  have h : loopsOf C_im_dispersion = [(0, B_im_dispersion_0), (2, B_im_dispersion_2)] := by kernel_rfl
  unfold LoopsOK
  rw [h]
  exact List.forall_mem_cons.2 ⟨⟨DL_im_dispersion_0, rfl, l_im_dispersion_0⟩, List.forall_mem_cons.2 ⟨⟨DL_im_dispersion_2, rfl, l_im_dispersion_2⟩, fun _ h => absurd h List.not_mem_nil⟩⟩

theorem ok_im_dispersion : FnOK prog E_im_dispersion tt 48 D_im_dispersion K_im_dispersion Z_im_dispersion O_im_dispersion f48 C_im_dispersion (fun x => T_im_dispersion x.1 x.2.1) (fun r => ((r, ()), ())) where
  at_ := func48
  name := by kernel_rfl
  body := by kernel_rfl
  res := by kernel_rfl
  ok := by kernel_rfl
  arity := fun _ => Nat.le_of_ble_eq_true (by kernel_rfl)
  chk := by kernel_rfl
  loops := o_im_dispersion
  run := e_im_dispersion
  F := fun _ => rfl
  emb := fun _ => rfl

theorem fd_im_dispersion : FDok prog (48, D_im_dispersion) := fn_ok mixed (env_ok (fun _ h => absurd h List.not_mem_nil)) tabOK ok_im_dispersion

theorem e_im_DispersionOf : ∀ x : A_im_DispersionOf.I, ((acode E_im_DispersionOf tt Z_im_DispersionOf (orcOf O_im_DispersionOf) C_im_DispersionOf (entry A_im_DispersionOf x)).map (keepRet tt K_im_DispersionOf)).ev = ((T_im_DispersionOf x.1 x.2.1).map fun r => some ((((r.1, (r.2, ())), ())) : K_im_DispersionOf.T)).ev := fun _ => by kernel_rfl

theorem o_im_DispersionOf : LoopsOK E_im_DispersionOf tt Z_im_DispersionOf O_im_DispersionOf C_im_DispersionOf := by
  have h : loopsOf C_im_DispersionOf = [] := by kernel_rfl
  unfold LoopsOK
  rw [h]
  exact fun _ h => absurd h List.not_mem_nil

theorem ok_im_DispersionOf : FnOK prog E_im_DispersionOf tt 26 D_im_DispersionOf K_im_DispersionOf Z_im_DispersionOf O_im_DispersionOf f26 C_im_DispersionOf (fun x => T_im_DispersionOf x.1 x.2.1) (fun r => ((r.1, (r.2, ())), ())) where
  at_ := func26
  name := by kernel_rfl
  body := by kernel_rfl
  res := by kernel_rfl
  ok := by kernel_rfl
  arity := fun _ => Nat.le_of_ble_eq_true (by kernel_rfl)
  chk := by kernel_rfl
  loops := o_im_DispersionOf
  run := e_im_DispersionOf
  F := fun _ => rfl
  emb := fun _ => rfl

theorem fd_im_DispersionOf : FDok prog (26, D_im_DispersionOf) := fn_ok mixed (env_ok (List.forall_mem_cons.2 ⟨fd_im_IsGround, List.forall_mem_cons.2 ⟨fd_im_isRising, List.forall_mem_cons.2 ⟨fd_im_dispersion, fun _ h => absurd h List.not_mem_nil⟩⟩⟩)) tabOK ok_im_DispersionOf

theorem e_lw_FnExactDispersionOf : ∀ x : A_lw_FnExactDispersionOf.I, ((acode E_lw_FnExactDispersionOf tt Z_lw_FnExactDispersionOf (orcOf O_lw_FnExactDispersionOf) C_lw_FnExactDispersionOf (entry A_lw_FnExactDispersionOf x)).map (keepRet tt K_lw_FnExactDispersionOf)).ev = ((T_lw_FnExactDispersionOf x.1 x.2.1).map fun r => some ((((r, ()), ())) : K_lw_FnExactDispersionOf.T)).ev := fun _ => by kernel_rfl

theorem o_lw_FnExactDispersionOf : LoopsOK E_lw_FnExactDispersionOf tt Z_lw_FnExactDispersionOf O_lw_FnExactDispersionOf C_lw_FnExactDispersionOf := by
  have h : loopsOf C_lw_FnExactDispersionOf = [] := by kernel_rfl
  unfold LoopsOK
  rw [h]
  exact fun _ h => absurd h List.not_mem_nil

theorem ok_lw_FnExactDispersionOf : FnOK prog E_lw_FnExactDispersionOf tt 7 D_lw_FnExactDispersionOf K_lw_FnExactDispersionOf Z_lw_FnExactDispersionOf O_lw_FnExactDispersionOf f7 C_lw_FnExactDispersionOf (fun x => T_lw_FnExactDispersionOf x.1 x.2.1) (fun r => ((r, ()), ())) where
  at_ := func7
  name := by kernel_rfl
  body := by kernel_rfl
  res := by kernel_rfl
  ok := by kernel_rfl
  arity := fun _ => Nat.le_of_ble_eq_true (by kernel_rfl)
  chk := by kernel_rfl
  loops := o_lw_FnExactDispersionOf
  run := e_lw_FnExactDispersionOf
  F := fun _ => rfl
  emb := fun _ => rfl

theorem fd_lw_FnExactDispersionOf : FDok prog (7, D_lw_FnExactDispersionOf) := fn_ok mixed (env_ok (List.forall_mem_cons.2 ⟨fd_lw_szIntSS, List.forall_mem_cons.2 ⟨fd_lw_toIntSS, List.forall_mem_cons.2 ⟨fd_lw_toIntS, List.forall_mem_cons.2 ⟨fd_sp_DispersionOf, List.forall_mem_cons.2 ⟨fd_im_DispersionOf, List.forall_mem_cons.2 ⟨fd_lw_eqIntSS, List.forall_mem_cons.2 ⟨fd_lw_eqIntS, fun _ h => absurd h List.not_mem_nil⟩⟩⟩⟩⟩⟩⟩)) tabOK ok_lw_FnExactDispersionOf

theorem e_lw_szField : ∀ x : A_lw_szField.I, ((acode E_lw_szField tt Z_lw_szField (orcOf O_lw_szField) C_lw_szField (entry A_lw_szField x)).map (keepRet tt K_lw_szField)).ev = ((T_lw_szField x.1.1 x.1.2.1 x.2.1).map fun r => some ((((r, ()), ())) : K_lw_szField.T)).ev := fun _ => by kernel_rfl

theorem o_lw_szField : LoopsOK E_lw_szField tt Z_lw_szField O_lw_szField C_lw_szField := by
  have h : loopsOf C_lw_szField = [] := by kernel_rfl
  unfold LoopsOK
  rw [h]
  exact fun _ h => absurd h List.not_mem_nil

theorem ok_lw_szField : FnOK prog E_lw_szField tt 49 D_lw_szField K_lw_szField Z_lw_szField O_lw_szField f49 C_lw_szField (fun x => T_lw_szField x.1.1 x.1.2.1 x.2.1) (fun r => ((r, ()), ())) where
  at_ := func49
  name := by kernel_rfl
  body := by kernel_rfl
  res := by kernel_rfl
  ok := by kernel_rfl
  arity := fun _ => Nat.le_of_ble_eq_true (by kernel_rfl)
  chk := by kernel_rfl
  loops := o_lw_szField
  run := e_lw_szField
  F := fun _ => rfl
  emb := fun _ => rfl

theorem fd_lw_szField : FDok prog (49, D_lw_szField) := fn_ok mixed (env_ok (List.forall_mem_cons.2 ⟨fd_lw_szIntS, List.forall_mem_cons.2 ⟨fd_lw_szIntSS, fun _ h => absurd h List.not_mem_nil⟩⟩)) tabOK ok_lw_szField

theorem e_lw_szAtlas : ∀ x : A_lw_szAtlas.I, ((acode E_lw_szAtlas tt Z_lw_szAtlas (orcOf O_lw_szAtlas) C_lw_szAtlas (entry A_lw_szAtlas x)).map (keepRet tt K_lw_szAtlas)).ev = ((T_lw_szAtlas x.1.1 x.1.2.1 x.1.2.2.1 x.1.2.2.2.1 x.2.1).map fun r => some ((((r, ()), ())) : K_lw_szAtlas.T)).ev := fun _ => by kernel_rfl

theorem o_lw_szAtlas : LoopsOK E_lw_szAtlas tt Z_lw_szAtlas O_lw_szAtlas C_lw_szAtlas := by
  have h : loopsOf C_lw_szAtlas = [] := by kernel_rfl
  unfold LoopsOK
  rw [h]
  exact fun _ h => absurd h List.not_mem_nil

theorem ok_lw_szAtlas : FnOK prog E_lw_szAtlas tt 27 D_lw_szAtlas K_lw_szAtlas Z_lw_szAtlas O_lw_szAtlas f27 C_lw_szAtlas (fun x => T_lw_szAtlas x.1.1 x.1.2.1 x.1.2.2.1 x.1.2.2.2.1 x.2.1) (fun r => ((r, ()), ())) where
  at_ := func27
  name := by kernel_rfl
  body := by kernel_rfl
  res := by kernel_rfl
  ok := by kernel_rfl
  arity := fun _ => Nat.le_of_ble_eq_true (by kernel_rfl)
  chk := by kernel_rfl
  loops := o_lw_szAtlas
  run := e_lw_szAtlas
  F := fun _ => rfl
  emb := fun _ => rfl

theorem fd_lw_szAtlas : FDok prog (27, D_lw_szAtlas) := fn_ok mixed (env_ok (List.forall_mem_cons.2 ⟨fd_lw_szField, List.forall_mem_cons.2 ⟨fd_lw_szIntS, fun _ h => absurd h List.not_mem_nil⟩⟩)) tabOK ok_lw_szAtlas

theorem e_lw_toField : ∀ x : A_lw_toField.I, ((acode E_lw_toField tt Z_lw_toField (orcOf O_lw_toField) C_lw_toField (entry A_lw_toField x)).map (keepRet tt K_lw_toField)).ev = ((T_lw_toField x.1.1 x.1.2.1).map fun r => some (((((r.1, (r.2, ())), ()), ())) : K_lw_toField.T)).ev := fun _ => by kernel_rfl

theorem o_lw_toField : LoopsOK E_lw_toField tt Z_lw_toField O_lw_toField C_lw_toField := by
  have h : loopsOf C_lw_toField = [] := by kernel_rfl
  unfold LoopsOK
  rw [h]
  exact fun _ h => absurd h List.not_mem_nil

theorem ok_lw_toField : FnOK prog E_lw_toField tt 51 D_lw_toField K_lw_toField Z_lw_toField O_lw_toField f51 C_lw_toField (fun x => T_lw_toField x.1.1 x.1.2.1) (fun r => (((r.1, (r.2, ())), ()), ())) where
  at_ := func51
  name := by kernel_rfl
  body := by kernel_rfl
  res := by kernel_rfl
  ok := by kernel_rfl
  arity := fun _ => Nat.le_of_ble_eq_true (by kernel_rfl)
  chk := by kernel_rfl
  loops := o_lw_toField
  run := e_lw_toField
  F := fun _ => rfl
  emb := fun _ => rfl

theorem fd_lw_toField : FDok prog (51, D_lw_toField) := fn_ok mixed (env_ok (List.forall_mem_cons.2 ⟨fd_lw_toIntS, List.forall_mem_cons.2 ⟨fd_lw_toIntSS, fun _ h => absurd h List.not_mem_nil⟩⟩)) tabOK ok_lw_toField

theorem e_lw_toAtlas : ∀ x : A_lw_toAtlas.I, ((acode E_lw_toAtlas tt Z_lw_toAtlas (orcOf O_lw_toAtlas) C_lw_toAtlas (entry A_lw_toAtlas x)).map (keepRet tt K_lw_toAtlas)).ev = ((T_lw_toAtlas x.1.1 x.1.2.1 x.1.2.2.1 x.1.2.2.2.1).map fun r => some (((((r.1, (r.2.1, (r.2.2.1, (r.2.2.2, ())))), ()), ())) : K_lw_toAtlas.T)).ev := fun _ => by kernel_rfl

theorem o_lw_toAtlas : LoopsOK E_lw_toAtlas tt Z_lw_toAtlas O_lw_toAtlas C_lw_toAtlas := by
  have h : loopsOf C_lw_toAtlas = [] := by kernel_rfl
  unfold LoopsOK
  rw [h]
  exact fun _ h => absurd h List.not_mem_nil

theorem ok_lw_toAtlas : FnOK prog E_lw_toAtlas tt 29 D_lw_toAtlas K_lw_toAtlas Z_lw_toAtlas O_lw_toAtlas f29 C_lw_toAtlas (fun x => T_lw_toAtlas x.1.1 x.1.2.1 x.1.2.2.1 x.1.2.2.2.1) (fun r => (((r.1, (r.2.1, (r.2.2.1, (r.2.2.2, ())))), ()), ())) where
  at_ := func29
  name := by kernel_rfl
  body := by kernel_rfl
  res := by kernel_rfl
  ok := by kernel_rfl
  arity := fun _ => Nat.le_of_ble_eq_true (by kernel_rfl)
  chk := by kernel_rfl
  loops := o_lw_toAtlas
  run := e_lw_toAtlas
  F := fun _ => rfl
  emb := fun _ => rfl

theorem fd_lw_toAtlas : FDok prog (29, D_lw_toAtlas) := fn_ok mixed (env_ok (List.forall_mem_cons.2 ⟨fd_lw_toField, List.forall_mem_cons.2 ⟨fd_lw_toIntS, fun _ h => absurd h List.not_mem_nil⟩⟩)) tabOK ok_lw_toAtlas

theorem e_sp_l2Good : ∀ x : A_sp_l2Good.I, ((acode E_sp_l2Good tt Z_sp_l2Good (orcOf O_sp_l2Good) C_sp_l2Good (entry A_sp_l2Good x)).map (keepRet tt K_sp_l2Good)).ev = ((T_sp_l2Good x.1.1 x.1.2.1).map fun r => some ((((r, ()), ())) : K_sp_l2Good.T)).ev := fun _ => by kernel_rfl

noncomputable def B_sp_l2Good_0 : Code := ((loopsOf C_sp_l2Good).find? fun p => Nat.beq p.1 0).elim .skip (·.2)
theorem l_sp_l2Good_0 : DL_sp_l2Good_0.OK E_sp_l2Good tt Z_sp_l2Good (orcOf O_sp_l2Good) B_sp_l2Good_0 where
  ok := by kernel_rfl
  oke := by kernel_rfl
  okr := by kernel_rfl
  eta := fun _ => rfl
  step := fun _ _ => by kernel_rfl

theorem o_sp_l2Good : LoopsOK E_sp_l2Good tt Z_sp_l2Good O_sp_l2Good C_sp_l2Good := by
  have h : loopsOf C_sp_l2Good = [(0, B_sp_l2Good_0)] := by kernel_rfl
  unfold LoopsOK
  rw [h]
  exact List.forall_mem_cons.2 ⟨⟨DL_sp_l2Good_0, rfl, l_sp_l2Good_0⟩, fun _ h => absurd h List.not_mem_nil⟩

theorem ok_sp_l2Good : FnOK prog E_sp_l2Good tt 68 D_sp_l2Good K_sp_l2Good Z_sp_l2Good O_sp_l2Good f68 C_sp_l2Good (fun x => T_sp_l2Good x.1.1 x.1.2.1) (fun r => ((r, ()), ())) where
  at_ := func68
  name := by kernel_rfl
  body := by kernel_rfl
  res := by kernel_rfl
  ok := by kernel_rfl
  arity := fun _ => Nat.le_of_ble_eq_true (by kernel_rfl)
  chk := by kernel_rfl
  loops := o_sp_l2Good
  run := e_sp_l2Good
  F := fun _ => rfl
  emb := fun _ => rfl

theorem fd_sp_l2Good : FDok prog (68, D_sp_l2Good) := fn_ok mixed (env_ok (List.forall_mem_cons.2 ⟨fd_sp_l2Row, List.forall_mem_cons.2 ⟨fd_sp_l1In, fun _ h => absurd h List.not_mem_nil⟩⟩)) tabOK ok_sp_l2Good

theorem e_sp_l2Set : ∀ x : A_sp_l2Set.I, ((acode E_sp_l2Set tt Z_sp_l2Set (orcOf O_sp_l2Set) C_sp_l2Set (entry A_sp_l2Set x)).map (keepRet tt K_sp_l2Set)).ev = ((T_sp_l2Set x.1.1 x.1.2.1 x.2.1).map fun r => some ((((r, ()), ())) : K_sp_l2Set.T)).ev := fun _ => by kernel_rfl

theorem o_sp_l2Set : LoopsOK E_sp_l2Set tt Z_sp_l2Set O_sp_l2Set C_sp_l2Set := by
  have h : loopsOf C_sp_l2Set = [] := by kernel_rfl
  unfold LoopsOK
  rw [h]
  exact fun _ h => absurd h List.not_mem_nil

theorem ok_sp_l2Set : FnOK prog E_sp_l2Set tt 69 D_sp_l2Set K_sp_l2Set Z_sp_l2Set O_sp_l2Set f69 C_sp_l2Set (fun x => T_sp_l2Set x.1.1 x.1.2.1 x.2.1) (fun r => ((r, ()), ())) where
  at_ := func69
  name := by kernel_rfl
  body := by kernel_rfl
  res := by kernel_rfl
  ok := by kernel_rfl
  arity := fun _ => Nat.le_of_ble_eq_true (by kernel_rfl)
  chk := by kernel_rfl
  loops := o_sp_l2Set
  run := e_sp_l2Set
  F := fun _ => rfl
  emb := fun _ => rfl

theorem fd_sp_l2Set : FDok prog (69, D_sp_l2Set) := fn_ok mixed (env_ok (List.forall_mem_cons.2 ⟨fd_sp_l1Rising, fun _ h => absurd h List.not_mem_nil⟩)) tabOK ok_sp_l2Set

theorem e_sp_l12Good : ∀ x : A_sp_l12Good.I, ((acode E_sp_l12Good tt Z_sp_l12Good (orcOf O_sp_l12Good) C_sp_l12Good (entry A_sp_l12Good x)).map (keepRet tt K_sp_l12Good)).ev = ((T_sp_l12Good x.1.1 x.1.2.1 x.1.2.2.1 x.1.2.2.2.1).map fun r => some ((((r, ()), ())) : K_sp_l12Good.T)).ev := fun _ => by kernel_rfl

theorem o_sp_l12Good : LoopsOK E_sp_l12Good tt Z_sp_l12Good O_sp_l12Good C_sp_l12Good := by
  have h : loopsOf C_sp_l12Good = [] := by kernel_rfl
  unfold LoopsOK
  rw [h]
  exact fun _ h => absurd h List.not_mem_nil

theorem ok_sp_l12Good : FnOK prog E_sp_l12Good tt 50 D_sp_l12Good K_sp_l12Good Z_sp_l12Good O_sp_l12Good f50 C_sp_l12Good (fun x => T_sp_l12Good x.1.1 x.1.2.1 x.1.2.2.1 x.1.2.2.2.1) (fun r => ((r, ()), ())) where
  at_ := func50
  name := by kernel_rfl
  body := by kernel_rfl
  res := by kernel_rfl
  ok := by kernel_rfl
  arity := fun _ => Nat.le_of_ble_eq_true (by kernel_rfl)
  chk := by kernel_rfl
  loops := o_sp_l12Good
  run := e_sp_l12Good
  F := fun _ => rfl
  emb := fun _ => rfl

theorem fd_sp_l12Good : FDok prog (50, D_sp_l12Good) := fn_ok mixed (env_ok (List.forall_mem_cons.2 ⟨fd_sp_l2Good, List.forall_mem_cons.2 ⟨fd_sp_l2Set, List.forall_mem_cons.2 ⟨fd_sp_l1In, fun _ h => absurd h List.not_mem_nil⟩⟩⟩)) tabOK ok_sp_l12Good

theorem e_sp_IsAtlas : ∀ x : A_sp_IsAtlas.I, ((acode E_sp_IsAtlas tt Z_sp_IsAtlas (orcOf O_sp_IsAtlas) C_sp_IsAtlas (entry A_sp_IsAtlas x)).map (keepRet tt K_sp_IsAtlas)).ev = ((T_sp_IsAtlas x.1.1 x.1.2.1 x.1.2.2.1 x.1.2.2.2.1).map fun r => some ((((r, ()), ())) : K_sp_IsAtlas.T)).ev := fun _ => by kernel_rfl

theorem o_sp_IsAtlas : LoopsOK E_sp_IsAtlas tt Z_sp_IsAtlas O_sp_IsAtlas C_sp_IsAtlas := by
  have h : loopsOf C_sp_IsAtlas = [] := by kernel_rfl
  unfold LoopsOK
  rw [h]
  exact fun _ h => absurd h List.not_mem_nil

theorem ok_sp_IsAtlas : FnOK prog E_sp_IsAtlas tt 28 D_sp_IsAtlas K_sp_IsAtlas Z_sp_IsAtlas O_sp_IsAtlas f28 C_sp_IsAtlas (fun x => T_sp_IsAtlas x.1.1 x.1.2.1 x.1.2.2.1 x.1.2.2.2.1) (fun r => ((r, ()), ())) where
  at_ := func28
  name := by kernel_rfl
  body := by kernel_rfl
  res := by kernel_rfl
  ok := by kernel_rfl
  arity := fun _ => Nat.le_of_ble_eq_true (by kernel_rfl)
  chk := by kernel_rfl
  loops := o_sp_IsAtlas
  run := e_sp_IsAtlas
  F := fun _ => rfl
  emb := fun _ => rfl

theorem fd_sp_IsAtlas : FDok prog (28, D_sp_IsAtlas) := fn_ok mixed (env_ok (List.forall_mem_cons.2 ⟨fd_sp_l12Good, fun _ h => absurd h List.not_mem_nil⟩)) tabOK ok_sp_IsAtlas

theorem e_slices_IndexFunc_SSint_Sint : ∀ x : A_slices_IndexFunc_SSint_Sint.I, ((acode E_slices_IndexFunc_SSint_Sint tt Z_slices_IndexFunc_SSint_Sint (orcOf O_slices_IndexFunc_SSint_Sint) C_slices_IndexFunc_SSint_Sint (entry A_slices_IndexFunc_SSint_Sint x)).map (keepRet tt K_slices_IndexFunc_SSint_Sint)).ev = ((T_slices_IndexFunc_SSint_Sint x.1 x.2.1).map fun r => some ((((r, ()), ())) : K_slices_IndexFunc_SSint_Sint.T)).ev := fun _ => by kernel_rfl

noncomputable def B_slices_IndexFunc_SSint_Sint_0 : Code := ((loopsOf C_slices_IndexFunc_SSint_Sint).find? fun p => Nat.beq p.1 0).elim .skip (·.2)
theorem l_slices_IndexFunc_SSint_Sint_0 : DL_slices_IndexFunc_SSint_Sint_0.OK E_slices_IndexFunc_SSint_Sint tt Z_slices_IndexFunc_SSint_Sint (orcOf O_slices_IndexFunc_SSint_Sint) B_slices_IndexFunc_SSint_Sint_0 where
  ok := by kernel_rfl
  oke := by kernel_rfl
  okr := by kernel_rfl
  eta := fun _ => rfl
  step := fun _ _ => by kernel_rfl

theorem o_slices_IndexFunc_SSint_Sint : LoopsOK E_slices_IndexFunc_SSint_Sint tt Z_slices_IndexFunc_SSint_Sint O_slices_IndexFunc_SSint_Sint C_slices_IndexFunc_SSint_Sint := by
  have h : loopsOf C_slices_IndexFunc_SSint_Sint = [(0, B_slices_IndexFunc_SSint_Sint_0)] := by kernel_rfl
  unfold LoopsOK
  rw [h]
  exact List.forall_mem_cons.2 ⟨⟨DL_slices_IndexFunc_SSint_Sint_0, rfl, l_slices_IndexFunc_SSint_Sint_0⟩, fun _ h => absurd h List.not_mem_nil⟩

theorem ok_slices_IndexFunc_SSint_Sint : FnOK prog E_slices_IndexFunc_SSint_Sint tt 75 D_slices_IndexFunc_SSint_Sint K_slices_IndexFunc_SSint_Sint Z_slices_IndexFunc_SSint_Sint O_slices_IndexFunc_SSint_Sint f75 C_slices_IndexFunc_SSint_Sint (fun x => T_slices_IndexFunc_SSint_Sint x.1 x.2.1) (fun r => ((r, ()), ())) where
  at_ := func75
  name := by kernel_rfl
  body := by kernel_rfl
  res := by kernel_rfl
  ok := by kernel_rfl
  arity := fun _ => Nat.le_of_ble_eq_true (by kernel_rfl)
  chk := by kernel_rfl
  loops := o_slices_IndexFunc_SSint_Sint
  run := e_slices_IndexFunc_SSint_Sint
  F := fun _ => rfl
  emb := fun _ => rfl

theorem fd_slices_IndexFunc_SSint_Sint : FDok prog (75, D_slices_IndexFunc_SSint_Sint) := fn_ok mixed (env_ok (fun _ h => absurd h List.not_mem_nil)) tabOK ok_slices_IndexFunc_SSint_Sint

theorem e_slices_ContainsFunc_SSint_Sint : ∀ x : A_slices_ContainsFunc_SSint_Sint.I, ((acode E_slices_ContainsFunc_SSint_Sint tt Z_slices_ContainsFunc_SSint_Sint (orcOf O_slices_ContainsFunc_SSint_Sint) C_slices_ContainsFunc_SSint_Sint (entry A_slices_ContainsFunc_SSint_Sint x)).map (keepRet tt K_slices_ContainsFunc_SSint_Sint)).ev = ((T_slices_ContainsFunc_SSint_Sint x.1 x.2.1).map fun r => some ((((r, ()), ())) : K_slices_ContainsFunc_SSint_Sint.T)).ev := fun _ => by kernel_rfl

theorem o_slices_ContainsFunc_SSint_Sint : LoopsOK E_slices_ContainsFunc_SSint_Sint tt Z_slices_ContainsFunc_SSint_Sint O_slices_ContainsFunc_SSint_Sint C_slices_ContainsFunc_SSint_Sint := by
  have h : loopsOf C_slices_ContainsFunc_SSint_Sint = [] := by kernel_rfl
  unfold LoopsOK
  rw [h]
  exact fun _ h => absurd h List.not_mem_nil

theorem ok_slices_ContainsFunc_SSint_Sint : FnOK prog E_slices_ContainsFunc_SSint_Sint tt 70 D_slices_ContainsFunc_SSint_Sint K_slices_ContainsFunc_SSint_Sint Z_slices_ContainsFunc_SSint_Sint O_slices_ContainsFunc_SSint_Sint f70 C_slices_ContainsFunc_SSint_Sint (fun x => T_slices_ContainsFunc_SSint_Sint x.1 x.2.1) (fun r => ((r, ()), ())) where
  at_ := func70
  name := by kernel_rfl
  body := by kernel_rfl
  res := by kernel_rfl
  ok := by kernel_rfl
  arity := fun _ => Nat.le_of_ble_eq_true (by kernel_rfl)
  chk := by kernel_rfl
  loops := o_slices_ContainsFunc_SSint_Sint
  run := e_slices_ContainsFunc_SSint_Sint
  F := fun _ => rfl
  emb := fun _ => rfl

theorem fd_slices_ContainsFunc_SSint_Sint : FDok prog (70, D_slices_ContainsFunc_SSint_Sint) := fn_ok mixed (env_ok (List.forall_mem_cons.2 ⟨fd_slices_IndexFunc_SSint_Sint, fun _ h => absurd h List.not_mem_nil⟩)) tabOK ok_slices_ContainsFunc_SSint_Sint

theorem e_im_IsField_1 : ∀ x : A_im_IsField_1.I, ((acode E_im_IsField_1 tt Z_im_IsField_1 (orcOf O_im_IsField_1) C_im_IsField_1 (entry A_im_IsField_1 x)).map (keepRet tt K_im_IsField_1)).ev = ((T_im_IsField_1 x.1 x.2.1.1 x.2.1.2.1).map fun r => some ((((r, ()), ())) : K_im_IsField_1.T)).ev := fun _ => by kernel_rfl

theorem o_im_IsField_1 : LoopsOK E_im_IsField_1 tt Z_im_IsField_1 O_im_IsField_1 C_im_IsField_1 := by
  have h : loopsOf C_im_IsField_1 = [] := by kernel_rfl
  unfold LoopsOK
  rw [h]
  exact fun _ h => absurd h List.not_mem_nil

theorem ok_im_IsField_1 : FnOK prog E_im_IsField_1 tt 71 D_im_IsField_1 K_im_IsField_1 Z_im_IsField_1 O_im_IsField_1 f71 C_im_IsField_1 (fun x => T_im_IsField_1 x.1 x.2.1.1 x.2.1.2.1) (fun r => ((r, ()), ())) where
  at_ := func71
  name := by kernel_rfl
  body := by kernel_rfl
  res := by kernel_rfl
  ok := by kernel_rfl
  arity := fun _ => Nat.le_of_ble_eq_true (by kernel_rfl)
  chk := by kernel_rfl
  loops := o_im_IsField_1
  run := e_im_IsField_1
  F := fun _ => rfl
  emb := fun _ => rfl

theorem fd_im_IsField_1 : FDok prog (71, D_im_IsField_1) := fn_ok mixed (env_ok (List.forall_mem_cons.2 ⟨fd_im_areBetween, fun _ h => absurd h List.not_mem_nil⟩)) tabOK ok_im_IsField_1

theorem e_im_IsField : ∀ x : A_im_IsField.I, ((acode E_im_IsField tt Z_im_IsField (orcOf O_im_IsField) C_im_IsField (entry A_im_IsField x)).map (keepRet tt K_im_IsField)).ev = ((T_im_IsField x.1.1 x.1.2.1).map fun r => some ((((r, ()), ())) : K_im_IsField.T)).ev := fun _ => by kernel_rfl

theorem o_im_IsField : LoopsOK E_im_IsField tt Z_im_IsField O_im_IsField C_im_IsField := by
  have h : loopsOf C_im_IsField = [] := by kernel_rfl
  unfold LoopsOK
  rw [h]
  exact fun _ h => absurd h List.not_mem_nil

theorem ok_im_IsField : FnOK prog E_im_IsField tt 52 D_im_IsField K_im_IsField Z_im_IsField O_im_IsField f52 C_im_IsField (fun x => T_im_IsField x.1.1 x.1.2.1) (fun r => ((r, ()), ())) where
  at_ := func52
  name := by kernel_rfl
  body := by kernel_rfl
  res := by kernel_rfl
  ok := by kernel_rfl
  arity := fun _ => Nat.le_of_ble_eq_true (by kernel_rfl)
  chk := by kernel_rfl
  loops := o_im_IsField
  run := e_im_IsField
  F := fun _ => rfl
  emb := fun _ => rfl

theorem fd_im_IsField : FDok prog (52, D_im_IsField) := fn_ok mixed (env_ok (List.forall_mem_cons.2 ⟨fd_im_between, List.forall_mem_cons.2 ⟨fd_im_areBetween, List.forall_mem_cons.2 ⟨fd_slices_ContainsFunc_SSint_Sint, List.forall_mem_cons.2 ⟨fd_im_IsField_1, fun _ h => absurd h List.not_mem_nil⟩⟩⟩⟩)) tabOK ok_im_IsField

theorem e_im_IsAtlas : ∀ x : A_im_IsAtlas.I, ((acode E_im_IsAtlas tt Z_im_IsAtlas (orcOf O_im_IsAtlas) C_im_IsAtlas (entry A_im_IsAtlas x)).map (keepRet tt K_im_IsAtlas)).ev = ((T_im_IsAtlas x.1.1 x.1.2.1 x.1.2.2.1 x.1.2.2.2.1).map fun r => some ((((r, ()), ())) : K_im_IsAtlas.T)).ev := fun _ => by kernel_rfl

theorem o_im_IsAtlas : LoopsOK E_im_IsAtlas tt Z_im_IsAtlas O_im_IsAtlas C_im_IsAtlas := by
  have h : loopsOf C_im_IsAtlas = [] := by kernel_rfl
  unfold LoopsOK
  rw [h]
  exact fun _ h => absurd h List.not_mem_nil

theorem ok_im_IsAtlas : FnOK prog E_im_IsAtlas tt 30 D_im_IsAtlas K_im_IsAtlas Z_im_IsAtlas O_im_IsAtlas f30 C_im_IsAtlas (fun x => T_im_IsAtlas x.1.1 x.1.2.1 x.1.2.2.1 x.1.2.2.2.1) (fun r => ((r, ()), ())) where
  at_ := func30
  name := by kernel_rfl
  body := by kernel_rfl
  res := by kernel_rfl
  ok := by kernel_rfl
  arity := fun _ => Nat.le_of_ble_eq_true (by kernel_rfl)
  chk := by kernel_rfl
  loops := o_im_IsAtlas
  run := e_im_IsAtlas
  F := fun _ => rfl
  emb := fun _ => rfl

theorem fd_im_IsAtlas : FDok prog (30, D_im_IsAtlas) := fn_ok mixed (env_ok (List.forall_mem_cons.2 ⟨fd_im_IsField, List.forall_mem_cons.2 ⟨fd_im_isRising, List.forall_mem_cons.2 ⟨fd_im_between, fun _ h => absurd h List.not_mem_nil⟩⟩⟩)) tabOK ok_im_IsAtlas

theorem e_lw_eqField : ∀ x : A_lw_eqField.I, ((acode E_lw_eqField tt Z_lw_eqField (orcOf O_lw_eqField) C_lw_eqField (entry A_lw_eqField x)).map (keepRet tt K_lw_eqField)).ev = ((T_lw_eqField x.1.1 x.1.2.1 x.2.1.1 x.2.1.2.1).map fun r => some ((((r, ()), ())) : K_lw_eqField.T)).ev := fun _ => by kernel_rfl

theorem o_lw_eqField : LoopsOK E_lw_eqField tt Z_lw_eqField O_lw_eqField C_lw_eqField := by
  have h : loopsOf C_lw_eqField = [] := by kernel_rfl
  unfold LoopsOK
  rw [h]
  exact fun _ h => absurd h List.not_mem_nil

theorem ok_lw_eqField : FnOK prog E_lw_eqField tt 54 D_lw_eqField K_lw_eqField Z_lw_eqField O_lw_eqField f54 C_lw_eqField (fun x => T_lw_eqField x.1.1 x.1.2.1 x.2.1.1 x.2.1.2.1) (fun r => ((r, ()), ())) where
  at_ := func54
  name := by kernel_rfl
  body := by kernel_rfl
  res := by kernel_rfl
  ok := by kernel_rfl
  arity := fun _ => Nat.le_of_ble_eq_true (by kernel_rfl)
  chk := by kernel_rfl
  loops := o_lw_eqField
  run := e_lw_eqField
  F := fun _ => rfl
  emb := fun _ => rfl

theorem fd_lw_eqField : FDok prog (54, D_lw_eqField) := fn_ok mixed (env_ok (List.forall_mem_cons.2 ⟨fd_lw_eqIntS, List.forall_mem_cons.2 ⟨fd_lw_eqIntSS, fun _ h => absurd h List.not_mem_nil⟩⟩)) tabOK ok_lw_eqField

theorem e_lw_eqAtlas : ∀ x : A_lw_eqAtlas.I, ((acode E_lw_eqAtlas tt Z_lw_eqAtlas (orcOf O_lw_eqAtlas) C_lw_eqAtlas (entry A_lw_eqAtlas x)).map (keepRet tt K_lw_eqAtlas)).ev = ((T_lw_eqAtlas x.1.1 x.1.2.1 x.1.2.2.1 x.1.2.2.2.1 x.2.1.1 x.2.1.2.1 x.2.1.2.2.1 x.2.1.2.2.2.1).map fun r => some ((((r, ()), ())) : K_lw_eqAtlas.T)).ev := fun _ => by kernel_rfl

theorem o_lw_eqAtlas : LoopsOK E_lw_eqAtlas tt Z_lw_eqAtlas O_lw_eqAtlas C_lw_eqAtlas := by
  have h : loopsOf C_lw_eqAtlas = [] := by kernel_rfl
  unfold LoopsOK
  rw [h]
  exact fun _ h => absurd h List.not_mem_nil

theorem ok_lw_eqAtlas : FnOK prog E_lw_eqAtlas tt 31 D_lw_eqAtlas K_lw_eqAtlas Z_lw_eqAtlas O_lw_eqAtlas f31 C_lw_eqAtlas (fun x => T_lw_eqAtlas x.1.1 x.1.2.1 x.1.2.2.1 x.1.2.2.2.1 x.2.1.1 x.2.1.2.1 x.2.1.2.2.1 x.2.1.2.2.2.1) (fun r => ((r, ()), ())) where
  at_ := func31
  name := by kernel_rfl
  body := by kernel_rfl
  res := by kernel_rfl
  ok := by kernel_rfl
  arity := fun _ => Nat.le_of_ble_eq_true (by kernel_rfl)
  chk := by kernel_rfl
  loops := o_lw_eqAtlas
  run := e_lw_eqAtlas
  F := fun _ => rfl
  emb := fun _ => rfl

theorem fd_lw_eqAtlas : FDok prog (31, D_lw_eqAtlas) := fn_ok mixed (env_ok (List.forall_mem_cons.2 ⟨fd_lw_eqField, List.forall_mem_cons.2 ⟨fd_lw_eqIntS, fun _ h => absurd h List.not_mem_nil⟩⟩)) tabOK ok_lw_eqAtlas

theorem e_lw_FnExactIsAtlas : ∀ x : A_lw_FnExactIsAtlas.I, ((acode E_lw_FnExactIsAtlas tt Z_lw_FnExactIsAtlas (orcOf O_lw_FnExactIsAtlas) C_lw_FnExactIsAtlas (entry A_lw_FnExactIsAtlas x)).map (keepRet tt K_lw_FnExactIsAtlas)).ev = ((T_lw_FnExactIsAtlas x.1.1 x.1.2.1 x.1.2.2.1 x.1.2.2.2.1).map fun r => some ((((r, ()), ())) : K_lw_FnExactIsAtlas.T)).ev := fun _ => by kernel_rfl

theorem o_lw_FnExactIsAtlas : LoopsOK E_lw_FnExactIsAtlas tt Z_lw_FnExactIsAtlas O_lw_FnExactIsAtlas C_lw_FnExactIsAtlas := by
  have h : loopsOf C_lw_FnExactIsAtlas = [] := by kernel_rfl
  unfold LoopsOK
  rw [h]
  exact fun _ h => absurd h List.not_mem_nil

theorem ok_lw_FnExactIsAtlas : FnOK prog E_lw_FnExactIsAtlas tt 8 D_lw_FnExactIsAtlas K_lw_FnExactIsAtlas Z_lw_FnExactIsAtlas O_lw_FnExactIsAtlas f8 C_lw_FnExactIsAtlas (fun x => T_lw_FnExactIsAtlas x.1.1 x.1.2.1 x.1.2.2.1 x.1.2.2.2.1) (fun r => ((r, ()), ())) where
  at_ := func8
  name := by kernel_rfl
  body := by kernel_rfl
  res := by kernel_rfl
  ok := by kernel_rfl
  arity := fun _ => Nat.le_of_ble_eq_true (by kernel_rfl)
  chk := by kernel_rfl
  loops := o_lw_FnExactIsAtlas
  run := e_lw_FnExactIsAtlas
  F := fun _ => rfl
  emb := fun _ => rfl

theorem fd_lw_FnExactIsAtlas : FDok prog (8, D_lw_FnExactIsAtlas) := fn_ok mixed (env_ok (List.forall_mem_cons.2 ⟨fd_lw_szAtlas, List.forall_mem_cons.2 ⟨fd_lw_toAtlas, List.forall_mem_cons.2 ⟨fd_sp_IsAtlas, List.forall_mem_cons.2 ⟨fd_im_IsAtlas, List.forall_mem_cons.2 ⟨fd_lw_eqAtlas, fun _ h => absurd h List.not_mem_nil⟩⟩⟩⟩⟩)) tabOK ok_lw_FnExactIsAtlas

theorem e_sp_l11Flows : ∀ x : A_sp_l11Flows.I, ((acode E_sp_l11Flows tt Z_sp_l11Flows (orcOf O_sp_l11Flows) C_sp_l11Flows (entry A_sp_l11Flows x)).map (keepRet tt K_sp_l11Flows)).ev = ((T_sp_l11Flows x.1 x.2.1 x.2.2.1).map fun r => some ((((r, ()), ())) : K_sp_l11Flows.T)).ev := fun _ => by kernel_rfl

noncomputable def B_sp_l11Flows_0 : Code := ((loopsOf C_sp_l11Flows).find? fun p => Nat.beq p.1 0).elim .skip (·.2)
theorem l_sp_l11Flows_0 : DL_sp_l11Flows_0.OK E_sp_l11Flows tt Z_sp_l11Flows (orcOf O_sp_l11Flows) B_sp_l11Flows_0 where
  ok := by kernel_rfl
  oke := by kernel_rfl
  okr := by kernel_rfl
  eta := fun _ => rfl
  step := fun _ _ => by kernel_rfl

theorem o_sp_l11Flows : LoopsOK E_sp_l11Flows tt Z_sp_l11Flows O_sp_l11Flows C_sp_l11Flows := by
  have h : loopsOf C_sp_l11Flows = [(0, B_sp_l11Flows_0)] := by kernel_rfl
  unfold LoopsOK
  rw [h]
  exact List.forall_mem_cons.2 ⟨⟨DL_sp_l11Flows_0, rfl, l_sp_l11Flows_0⟩, fun _ h => absurd h List.not_mem_nil⟩

theorem ok_sp_l11Flows : FnOK prog E_sp_l11Flows tt 55 D_sp_l11Flows K_sp_l11Flows Z_sp_l11Flows O_sp_l11Flows f55 C_sp_l11Flows (fun x => T_sp_l11Flows x.1 x.2.1 x.2.2.1) (fun r => ((r, ()), ())) where
  at_ := func55
  name := by kernel_rfl
  body := by kernel_rfl
  res := by kernel_rfl
  ok := by kernel_rfl
  arity := fun _ => Nat.le_of_ble_eq_true (by kernel_rfl)
  chk := by kernel_rfl
  loops := o_sp_l11Flows
  run := e_sp_l11Flows
  F := fun _ => rfl
  emb := fun _ => rfl

theorem fd_sp_l11Flows : FDok prog (55, D_sp_l11Flows) := fn_ok mixed (env_ok (List.forall_mem_cons.2 ⟨fd_sp_l2Row, List.forall_mem_cons.2 ⟨fd_sp_l11Small, List.forall_mem_cons.2 ⟨fd_sp_l1In, fun _ h => absurd h List.not_mem_nil⟩⟩⟩)) tabOK ok_sp_l11Flows

theorem e_sp_l11Cost : ∀ x : A_sp_l11Cost.I, ((acode E_sp_l11Cost tt Z_sp_l11Cost (orcOf O_sp_l11Cost) C_sp_l11Cost (entry A_sp_l11Cost x)).map (keepRet tt K_sp_l11Cost)).ev = ((T_sp_l11Cost x.1 x.2.1 x.2.2.1 x.2.2.2.1).map fun r => some ((((r, ()), ())) : K_sp_l11Cost.T)).ev := fun _ => by kernel_rfl

noncomputable def B_sp_l11Cost_2 : Code := ((loopsOf C_sp_l11Cost).find? fun p => Nat.beq p.1 2).elim .skip (·.2)
theorem l_sp_l11Cost_2 : DL_sp_l11Cost_2.OK E_sp_l11Cost tt Z_sp_l11Cost (orcOf O_sp_l11Cost) B_sp_l11Cost_2 where
  ok := by kernel_rfl
  oke := by kernel_rfl
  okr := by kernel_rfl
  eta := fun _ => rfl
  step := fun _ _ => by kernel_rfl

noncomputable def B_sp_l11Cost_0 : Code := ((loopsOf C_sp_l11Cost).find? fun p => Nat.beq p.1 0).elim .skip (·.2)
theorem l_sp_l11Cost_0 : DL_sp_l11Cost_0.OK E_sp_l11Cost tt Z_sp_l11Cost (orcOf O_sp_l11Cost) B_sp_l11Cost_0 where
  ok := by kernel_rfl
  oke := by kernel_rfl
  okr := by kernel_rfl
  eta := fun _ => rfl
  step := fun _ _ => by kernel_rfl

theorem o_sp_l11Cost : LoopsOK E_sp_l11Cost tt Z_sp_l11Cost O_sp_l11Cost C_sp_l11Cost := by
  have h : loopsOf C_sp_l11Cost = [(0, B_sp_l11Cost_0), (2, B_sp_l11Cost_2)] := by kernel_rfl
  unfold LoopsOK
  rw [h]
  exact List.forall_mem_cons.2 ⟨⟨DL_sp_l11Cost_0, rfl, l_sp_l11Cost_0⟩, List.forall_mem_cons.2 ⟨⟨DL_sp_l11Cost_2, rfl, l_sp_l11Cost_2⟩, fun _ h => absurd h List.not_mem_nil⟩⟩

theorem ok_sp_l11Cost : FnOK prog E_sp_l11Cost tt 56 D_sp_l11Cost K_sp_l11Cost Z_sp_l11Cost O_sp_l11Cost f56 C_sp_l11Cost (fun x => T_sp_l11Cost x.1 x.2.1 x.2.2.1 x.2.2.2.1) (fun r => ((r, ()), ())) where
  at_ := func56
  name := by kernel_rfl
  body := by kernel_rfl
  res := by kernel_rfl
  ok := by kernel_rfl
  arity := fun _ => Nat.le_of_ble_eq_true (by kernel_rfl)
  chk := by kernel_rfl
  loops := o_sp_l11Cost
  run := e_sp_l11Cost
  F := fun _ => rfl
  emb := fun _ => rfl

theorem fd_sp_l11Cost : FDok prog (56, D_sp_l11Cost) := fn_ok mixed (env_ok (fun _ h => absurd h List.not_mem_nil)) tabOK ok_sp_l11Cost

theorem e_sp_HubCost : ∀ x : A_sp_HubCost.I, ((acode E_sp_HubCost tt Z_sp_HubCost (orcOf O_sp_HubCost) C_sp_HubCost (entry A_sp_HubCost x)).map (keepRet tt K_sp_HubCost)).ev = ((T_sp_HubCost x.1 x.2.1 x.2.2.1 x.2.2.2.1).map fun r => some ((((r.1, (r.2, ())), ())) : K_sp_HubCost.T)).ev := fun _ => by kernel_rfl

theorem o_sp_HubCost : LoopsOK E_sp_HubCost tt Z_sp_HubCost O_sp_HubCost C_sp_HubCost := by
  have h : loopsOf C_sp_HubCost = [] := by kernel_rfl
  unfold LoopsOK
  rw [h]
  exact fun _ h => absurd h List.not_mem_nil

theorem ok_sp_HubCost : FnOK prog E_sp_HubCost tt 32 D_sp_HubCost K_sp_HubCost Z_sp_HubCost O_sp_HubCost f32 C_sp_HubCost (fun x => T_sp_HubCost x.1 x.2.1 x.2.2.1 x.2.2.2.1) (fun r => ((r.1, (r.2, ())), ())) where
  at_ := func32
  name := by kernel_rfl
  body := by kernel_rfl
  res := by kernel_rfl
  ok := by kernel_rfl
  arity := fun _ => Nat.le_of_ble_eq_true (by kernel_rfl)
  chk := by kernel_rfl
  loops := o_sp_HubCost
  run := e_sp_HubCost
  F := fun _ => rfl
  emb := fun _ => rfl

theorem fd_sp_HubCost : FDok prog (32, D_sp_HubCost) := fn_ok mixed (env_ok (List.forall_mem_cons.2 ⟨fd_sp_l11Flows, List.forall_mem_cons.2 ⟨fd_sp_l11Hubs, List.forall_mem_cons.2 ⟨fd_sp_l11Cost, fun _ h => absurd h List.not_mem_nil⟩⟩⟩)) tabOK ok_sp_HubCost

theorem e_im_areFlows_1 : ∀ x : A_im_areFlows_1.I, ((acode E_im_areFlows_1 tt Z_im_areFlows_1 (orcOf O_im_areFlows_1) C_im_areFlows_1 (entry A_im_areFlows_1 x)).map (keepRet tt K_im_areFlows_1)).ev = ((T_im_areFlows_1 x.1 x.2.1.1).map fun r => some ((((r, ()), ())) : K_im_areFlows_1.T)).ev := fun _ => by kernel_rfl

theorem o_im_areFlows_1 : LoopsOK E_im_areFlows_1 tt Z_im_areFlows_1 O_im_areFlows_1 C_im_areFlows_1 := by
  have h : loopsOf C_im_areFlows_1 = [] := by kernel_rfl
  unfold LoopsOK
  rw [h]
  exact fun _ h => absurd h List.not_mem_nil

theorem ok_im_areFlows_1 : FnOK prog E_im_areFlows_1 tt 72 D_im_areFlows_1 K_im_areFlows_1 Z_im_areFlows_1 O_im_areFlows_1 f72 C_im_areFlows_1 (fun x => T_im_areFlows_1 x.1 x.2.1.1) (fun r => ((r, ()), ())) where
  at_ := func72
  name := by kernel_rfl
  body := by kernel_rfl
  res := by kernel_rfl
  ok := by kernel_rfl
  arity := fun _ => Nat.le_of_ble_eq_true (by kernel_rfl)
  chk := by kernel_rfl
  loops := o_im_areFlows_1
  run := e_im_areFlows_1
  F := fun _ => rfl
  emb := fun _ => rfl

theorem fd_im_areFlows_1 : FDok prog (72, D_im_areFlows_1) := fn_ok mixed (env_ok (List.forall_mem_cons.2 ⟨fd_im_areBetween, fun _ h => absurd h List.not_mem_nil⟩)) tabOK ok_im_areFlows_1

theorem e_im_areFlows : ∀ x : A_im_areFlows.I, ((acode E_im_areFlows tt Z_im_areFlows (orcOf O_im_areFlows) C_im_areFlows (entry A_im_areFlows x)).map (keepRet tt K_im_areFlows)).ev = ((T_im_areFlows x.1 x.2.1).map fun r => some ((((r, ()), ())) : K_im_areFlows.T)).ev := fun _ => by kernel_rfl

theorem o_im_areFlows : LoopsOK E_im_areFlows tt Z_im_areFlows O_im_areFlows C_im_areFlows := by
  have h : loopsOf C_im_areFlows = [] := by kernel_rfl
  unfold LoopsOK
  rw [h]
  exact fun _ h => absurd h List.not_mem_nil

theorem ok_im_areFlows : FnOK prog E_im_areFlows tt 57 D_im_areFlows K_im_areFlows Z_im_areFlows O_im_areFlows f57 C_im_areFlows (fun x => T_im_areFlows x.1 x.2.1) (fun r => ((r, ()), ())) where
  at_ := func57
  name := by kernel_rfl
  body := by kernel_rfl
  res := by kernel_rfl
  ok := by kernel_rfl
  arity := fun _ => Nat.le_of_ble_eq_true (by kernel_rfl)
  chk := by kernel_rfl
  loops := o_im_areFlows
  run := e_im_areFlows
  F := fun _ => rfl
  emb := fun _ => rfl

theorem fd_im_areFlows : FDok prog (57, D_im_areFlows) := fn_ok mixed (env_ok (List.forall_mem_cons.2 ⟨fd_slices_ContainsFunc_SSint_Sint, List.forall_mem_cons.2 ⟨fd_im_areFlows_1, fun _ h => absurd h List.not_mem_nil⟩⟩)) tabOK ok_im_areFlows

theorem e_im_hubCost : ∀ x : A_im_hubCost.I, ((acode E_im_hubCost tt Z_im_hubCost (orcOf O_im_hubCost) C_im_hubCost (entry A_im_hubCost x)).map (keepRet tt K_im_hubCost)).ev = ((T_im_hubCost x.1 x.2.1 x.2.2.1 x.2.2.2.1).map fun r => some ((((r, ()), ())) : K_im_hubCost.T)).ev := fun _ => by kernel_rfl

noncomputable def B_im_hubCost_2 : Code := ((loopsOf C_im_hubCost).find? fun p => Nat.beq p.1 2).elim .skip (·.2)
theorem l_im_hubCost_2 : DL_im_hubCost_2.OK E_im_hubCost tt Z_im_hubCost (orcOf O_im_hubCost) B_im_hubCost_2 where
  ok := by kernel_rfl
  oke := by kernel_rfl
  okr := by kernel_rfl
  eta := fun _ => rfl
  step := fun _ _ => by kernel_rfl

noncomputable def B_im_hubCost_0 : Code := ((loopsOf C_im_hubCost).find? fun p => Nat.beq p.1 0).elim .skip (·.2)
theorem l_im_hubCost_0 : DL_im_hubCost_0.OK E_im_hubCost tt Z_im_hubCost (orcOf O_im_hubCost) B_im_hubCost_0 where
  ok := by kernel_rfl
  oke := by kernel_rfl
  okr := by kernel_rfl
  eta := fun _ => rfl
  step := fun _ _ => by kernel_rfl

theorem o_im_hubCost : LoopsOK E_im_hubCost tt Z_im_hubCost O_im_hubCost C_im_hubCost := by
  have h : loopsOf C_im_hubCost = [(0, B_im_hubCost_0), (2, B_im_hubCost_2)] := by kernel_rfl
  unfold LoopsOK
  rw [h]
  exact List.forall_mem_cons.2 ⟨⟨DL_im_hubCost_0, rfl, l_im_hubCost_0⟩, List.forall_mem_cons.2 ⟨⟨DL_im_hubCost_2, rfl, l_im_hubCost_2⟩, fun _ h => absurd h List.not_mem_nil⟩⟩

theorem ok_im_hubCost : FnOK prog E_im_hubCost tt 58 D_im_hubCost K_im_hubCost Z_im_hubCost O_im_hubCost f58 C_im_hubCost (fun x => T_im_hubCost x.1 x.2.1 x.2.2.1 x.2.2.2.1) (fun r => ((r, ()), ())) where
  at_ := func58
  name := by kernel_rfl
  body := by kernel_rfl
  res := by kernel_rfl
  ok := by kernel_rfl
  arity := fun _ => Nat.le_of_ble_eq_true (by kernel_rfl)
  chk := by kernel_rfl
  loops := o_im_hubCost
  run := e_im_hubCost
  F := fun _ => rfl
  emb := fun _ => rfl

theorem fd_im_hubCost : FDok prog (58, D_im_hubCost) := fn_ok mixed (env_ok (fun _ h => absurd h List.not_mem_nil)) tabOK ok_im_hubCost

theorem e_im_HubCost : ∀ x : A_im_HubCost.I, ((acode E_im_HubCost tt Z_im_HubCost (orcOf O_im_HubCost) C_im_HubCost (entry A_im_HubCost x)).map (keepRet tt K_im_HubCost)).ev = ((T_im_HubCost x.1 x.2.1 x.2.2.1 x.2.2.2.1).map fun r => some ((((r.1, (r.2, ())), ())) : K_im_HubCost.T)).ev := fun _ => by kernel_rfl

theorem o_im_HubCost : LoopsOK E_im_HubCost tt Z_im_HubCost O_im_HubCost C_im_HubCost := by
  have h : loopsOf C_im_HubCost = [] := by kernel_rfl
  unfold LoopsOK
  rw [h]
  exact fun _ h => absurd h List.not_mem_nil

theorem ok_im_HubCost : FnOK prog E_im_HubCost tt 33 D_im_HubCost K_im_HubCost Z_im_HubCost O_im_HubCost f33 C_im_HubCost (fun x => T_im_HubCost x.1 x.2.1 x.2.2.1 x.2.2.2.1) (fun r => ((r.1, (r.2, ())), ())) where
  at_ := func33
  name := by kernel_rfl
  body := by kernel_rfl
  res := by kernel_rfl
  ok := by kernel_rfl
  arity := fun _ => Nat.le_of_ble_eq_true (by kernel_rfl)
  chk := by kernel_rfl
  loops := o_im_HubCost
  run := e_im_HubCost
  F := fun _ => rfl
  emb := fun _ => rfl

theorem fd_im_HubCost : FDok prog (33, D_im_HubCost) := fn_ok mixed (env_ok (List.forall_mem_cons.2 ⟨fd_im_isNet, List.forall_mem_cons.2 ⟨fd_im_areFlows, List.forall_mem_cons.2 ⟨fd_im_isAllocation, List.forall_mem_cons.2 ⟨fd_im_between, List.forall_mem_cons.2 ⟨fd_im_hubCost, fun _ h => absurd h List.not_mem_nil⟩⟩⟩⟩⟩)) tabOK ok_im_HubCost

theorem e_lw_FnExactHubCost : ∀ x : A_lw_FnExactHubCost.I, ((acode E_lw_FnExactHubCost tt Z_lw_FnExactHubCost (orcOf O_lw_FnExactHubCost) C_lw_FnExactHubCost (entry A_lw_FnExactHubCost x)).map (keepRet tt K_lw_FnExactHubCost)).ev = ((T_lw_FnExactHubCost x.1 x.2.1 x.2.2.1 x.2.2.2.1).map fun r => some ((((r, ()), ())) : K_lw_FnExactHubCost.T)).ev := fun _ => by kernel_rfl

theorem o_lw_FnExactHubCost : LoopsOK E_lw_FnExactHubCost tt Z_lw_FnExactHubCost O_lw_FnExactHubCost C_lw_FnExactHubCost := by
  have h : loopsOf C_lw_FnExactHubCost = [] := by kernel_rfl
  unfold LoopsOK
  rw [h]
  exact fun _ h => absurd h List.not_mem_nil

theorem ok_lw_FnExactHubCost : FnOK prog E_lw_FnExactHubCost tt 9 D_lw_FnExactHubCost K_lw_FnExactHubCost Z_lw_FnExactHubCost O_lw_FnExactHubCost f9 C_lw_FnExactHubCost (fun x => T_lw_FnExactHubCost x.1 x.2.1 x.2.2.1 x.2.2.2.1) (fun r => ((r, ()), ())) where
  at_ := func9
  name := by kernel_rfl
  body := by kernel_rfl
  res := by kernel_rfl
  ok := by kernel_rfl
  arity := fun _ => Nat.le_of_ble_eq_true (by kernel_rfl)
  chk := by kernel_rfl
  loops := o_lw_FnExactHubCost
  run := e_lw_FnExactHubCost
  F := fun _ => rfl
  emb := fun _ => rfl

theorem fd_lw_FnExactHubCost : FDok prog (9, D_lw_FnExactHubCost) := fn_ok mixed (env_ok (List.forall_mem_cons.2 ⟨fd_lw_szIntSS, List.forall_mem_cons.2 ⟨fd_lw_toIntSS, List.forall_mem_cons.2 ⟨fd_lw_toIntS, List.forall_mem_cons.2 ⟨fd_sp_HubCost, List.forall_mem_cons.2 ⟨fd_im_HubCost, List.forall_mem_cons.2 ⟨fd_lw_eqIntSS, List.forall_mem_cons.2 ⟨fd_lw_eqIntS, fun _ h => absurd h List.not_mem_nil⟩⟩⟩⟩⟩⟩⟩)) tabOK ok_lw_FnExactHubCost
end Go.Proofs.Ytafcpibodfbjnaa
