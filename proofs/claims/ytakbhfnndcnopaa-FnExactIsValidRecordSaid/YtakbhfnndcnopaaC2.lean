import Derived.Test.YtakbhfnndcnopaaC1
namespace Go.Proofs.Ytakbhfnndcnopaa
open Go.Proofs.Try

theorem mixed : prog.follows .mixedOrders = true := by kernel_rfl
theorem tabOK : TabOK prog tt := tab_ok (by kernel_rfl)

theorem e_lw_szLogRecord : ∀ x : D_lw_szLogRecord.T, ((acode E_lw_szLogRecord tt Z_lw_szLogRecord (orcOf O_lw_szLogRecord) C_lw_szLogRecord (entry A_lw_szLogRecord I_lw_szLogRecord x)).map (keepRet tt K_lw_szLogRecord)).ev = ((T_lw_szLogRecord x.1.1.1 x.1.1.2.1 x.1.2.1).map fun r => some ((((r, ()), ())) : K_lw_szLogRecord.T)).ev := fun _ => by kernel_rfl

theorem o_lw_szLogRecord : LoopsOK E_lw_szLogRecord tt Z_lw_szLogRecord O_lw_szLogRecord C_lw_szLogRecord := by
  have h : loopsOf C_lw_szLogRecord = [] := by kernel_rfl
  unfold LoopsOK
  rw [h]
  exact fun _ h => absurd h List.not_mem_nil

theorem ok_lw_szLogRecord : FnOK prog E_lw_szLogRecord tt 5 D_lw_szLogRecord K_lw_szLogRecord Z_lw_szLogRecord O_lw_szLogRecord f5 C_lw_szLogRecord (fun x => T_lw_szLogRecord x.1.1.1 x.1.1.2.1 x.1.2.1) (fun r => ((r, ()), ())) where
  at_ := func5
  name := by kernel_rfl
  body := by kernel_rfl
  res := by kernel_rfl
  ok := by kernel_rfl
  arity := fun _ => Nat.le_of_ble_eq_true (by kernel_rfl)
  pin := fun _ => by kernel_rfl
  chk := by kernel_rfl
  loops := o_lw_szLogRecord
  run := e_lw_szLogRecord
  F := fun _ => rfl
  emb := fun _ => rfl

theorem fd_lw_szLogRecord : FDok prog (5, D_lw_szLogRecord) := fn_ok mixed (env_ok (fun _ h => absurd h List.not_mem_nil)) tabOK ok_lw_szLogRecord

theorem e_lw_toLogRecord : ∀ x : D_lw_toLogRecord.T, ((acode E_lw_toLogRecord tt Z_lw_toLogRecord (orcOf O_lw_toLogRecord) C_lw_toLogRecord (entry A_lw_toLogRecord I_lw_toLogRecord x)).map (keepRet tt K_lw_toLogRecord)).ev = ((T_lw_toLogRecord x.1.1.1 x.1.1.2.1).map fun r => some (((((r.1, (r.2, ())), ()), ())) : K_lw_toLogRecord.T)).ev := fun _ => by kernel_rfl

theorem o_lw_toLogRecord : LoopsOK E_lw_toLogRecord tt Z_lw_toLogRecord O_lw_toLogRecord C_lw_toLogRecord := by
  have h : loopsOf C_lw_toLogRecord = [] := by kernel_rfl
  unfold LoopsOK
  rw [h]
  exact fun _ h => absurd h List.not_mem_nil

theorem ok_lw_toLogRecord : FnOK prog E_lw_toLogRecord tt 7 D_lw_toLogRecord K_lw_toLogRecord Z_lw_toLogRecord O_lw_toLogRecord f7 C_lw_toLogRecord (fun x => T_lw_toLogRecord x.1.1.1 x.1.1.2.1) (fun r => (((r.1, (r.2, ())), ()), ())) where
  at_ := func7
  name := by kernel_rfl
  body := by kernel_rfl
  res := by kernel_rfl
  ok := by kernel_rfl
  arity := fun _ => Nat.le_of_ble_eq_true (by kernel_rfl)
  pin := fun _ => by kernel_rfl
  chk := by kernel_rfl
  loops := o_lw_toLogRecord
  run := e_lw_toLogRecord
  F := fun _ => rfl
  emb := fun _ => rfl

theorem fd_lw_toLogRecord : FDok prog (7, D_lw_toLogRecord) := fn_ok mixed (env_ok (fun _ h => absurd h List.not_mem_nil)) tabOK ok_lw_toLogRecord

theorem e_sp_l1In : ∀ x : D_sp_l1In.T, ((acode E_sp_l1In tt Z_sp_l1In (orcOf O_sp_l1In) C_sp_l1In (entry A_sp_l1In I_sp_l1In x)).map (keepRet tt K_sp_l1In)).ev = ((T_sp_l1In x.1.1 x.1.2.1 x.1.2.2.1).map fun r => some ((((r, ()), ())) : K_sp_l1In.T)).ev := fun _ => by kernel_rfl

theorem o_sp_l1In : LoopsOK E_sp_l1In tt Z_sp_l1In O_sp_l1In C_sp_l1In := by
  have h : loopsOf C_sp_l1In = [] := by kernel_rfl
  unfold LoopsOK
  rw [h]
  exact fun _ h => absurd h List.not_mem_nil

theorem ok_sp_l1In : FnOK prog E_sp_l1In tt 46 D_sp_l1In K_sp_l1In Z_sp_l1In O_sp_l1In f46 C_sp_l1In (fun x => T_sp_l1In x.1.1 x.1.2.1 x.1.2.2.1) (fun r => ((r, ()), ())) where
  at_ := func46
  name := by kernel_rfl
  body := by kernel_rfl
  res := by kernel_rfl
  ok := by kernel_rfl
  arity := fun _ => Nat.le_of_ble_eq_true (by kernel_rfl)
  pin := fun _ => by kernel_rfl
  chk := by kernel_rfl
  loops := o_sp_l1In
  run := e_sp_l1In
  F := fun _ => rfl
  emb := fun _ => rfl

theorem fd_sp_l1In : FDok prog (46, D_sp_l1In) := fn_ok mixed (env_ok (fun _ h => absurd h List.not_mem_nil)) tabOK ok_sp_l1In

theorem e_sp_l12Bytes : ∀ x : D_sp_l12Bytes.T, ((acode E_sp_l12Bytes tt Z_sp_l12Bytes (orcOf O_sp_l12Bytes) C_sp_l12Bytes (entry A_sp_l12Bytes I_sp_l12Bytes x)).map (keepRet tt K_sp_l12Bytes)).ev = ((T_sp_l12Bytes x.1.1 x.1.2.1).map fun r => some ((((r, ()), ())) : K_sp_l12Bytes.T)).ev := fun _ => by kernel_rfl

noncomputable def B_sp_l12Bytes_0 : Code := ((loopsOf C_sp_l12Bytes).find? fun p => Nat.beq p.1 0).elim .skip (·.2)
theorem l_sp_l12Bytes_0 : (DL_sp_l12Bytes_0).OK E_sp_l12Bytes tt Z_sp_l12Bytes (orcOf O_sp_l12Bytes) B_sp_l12Bytes_0 where
  ok := by kernel_rfl
  oke := by kernel_rfl
  okr := by kernel_rfl
  eta := fun _ => rfl
  step := fun _ _ => by kernel_rfl

theorem o_sp_l12Bytes : LoopsOK E_sp_l12Bytes tt Z_sp_l12Bytes O_sp_l12Bytes C_sp_l12Bytes := by
  have h : loopsOf C_sp_l12Bytes = [(0, B_sp_l12Bytes_0)] := by kernel_rfl
  unfold LoopsOK
  rw [h]
  exact List.forall_mem_cons.2 ⟨fun d h => (by have e : some (DL_sp_l12Bytes_0) = some d := h; cases e; exact l_sp_l12Bytes_0), fun _ h => absurd h List.not_mem_nil⟩

theorem ok_sp_l12Bytes : FnOK prog E_sp_l12Bytes tt 35 D_sp_l12Bytes K_sp_l12Bytes Z_sp_l12Bytes O_sp_l12Bytes f35 C_sp_l12Bytes (fun x => T_sp_l12Bytes x.1.1 x.1.2.1) (fun r => ((r, ()), ())) where
  at_ := func35
  name := by kernel_rfl
  body := by kernel_rfl
  res := by kernel_rfl
  ok := by kernel_rfl
  arity := fun _ => Nat.le_of_ble_eq_true (by kernel_rfl)
  pin := fun _ => by kernel_rfl
  chk := by kernel_rfl
  loops := o_sp_l12Bytes
  run := e_sp_l12Bytes
  F := fun _ => rfl
  emb := fun _ => rfl

theorem fd_sp_l12Bytes : FDok prog (35, D_sp_l12Bytes) := fn_ok mixed (env_ok (List.forall_mem_cons.2 ⟨fd_sp_l1In, fun _ h => absurd h List.not_mem_nil⟩)) tabOK ok_sp_l12Bytes

theorem e_sp_l1Stands : ∀ x : D_sp_l1Stands.T, ((acode E_sp_l1Stands tt Z_sp_l1Stands (orcOf O_sp_l1Stands) C_sp_l1Stands (entry A_sp_l1Stands I_sp_l1Stands x)).map (keepRet tt K_sp_l1Stands)).ev = ((T_sp_l1Stands x.1.1 x.1.2.1).map fun r => some ((((r, ()), ())) : K_sp_l1Stands.T)).ev := fun _ => by kernel_rfl

noncomputable def B_sp_l1Stands_0 : Code := ((loopsOf C_sp_l1Stands).find? fun p => Nat.beq p.1 0).elim .skip (·.2)
theorem l_sp_l1Stands_0 : (DL_sp_l1Stands_0).OK E_sp_l1Stands tt Z_sp_l1Stands (orcOf O_sp_l1Stands) B_sp_l1Stands_0 where
  ok := by kernel_rfl
  oke := by kernel_rfl
  okr := by kernel_rfl
  eta := fun _ => rfl
  step := fun _ _ => by kernel_rfl

theorem o_sp_l1Stands : LoopsOK E_sp_l1Stands tt Z_sp_l1Stands O_sp_l1Stands C_sp_l1Stands := by
  have h : loopsOf C_sp_l1Stands = [(0, B_sp_l1Stands_0)] := by kernel_rfl
  unfold LoopsOK
  rw [h]
  exact List.forall_mem_cons.2 ⟨fun d h => (by have e : some (DL_sp_l1Stands_0) = some d := h; cases e; exact l_sp_l1Stands_0), fun _ h => absurd h List.not_mem_nil⟩

theorem ok_sp_l1Stands : FnOK prog E_sp_l1Stands tt 36 D_sp_l1Stands K_sp_l1Stands Z_sp_l1Stands O_sp_l1Stands f36 C_sp_l1Stands (fun x => T_sp_l1Stands x.1.1 x.1.2.1) (fun r => ((r, ()), ())) where
  at_ := func36
  name := by kernel_rfl
  body := by kernel_rfl
  res := by kernel_rfl
  ok := by kernel_rfl
  arity := fun _ => Nat.le_of_ble_eq_true (by kernel_rfl)
  pin := fun _ => by kernel_rfl
  chk := by kernel_rfl
  loops := o_sp_l1Stands
  run := e_sp_l1Stands
  F := fun _ => rfl
  emb := fun _ => rfl

theorem fd_sp_l1Stands : FDok prog (36, D_sp_l1Stands) := fn_ok mixed (env_ok (fun _ h => absurd h List.not_mem_nil)) tabOK ok_sp_l1Stands

theorem e_sp_l12Record : ∀ x : D_sp_l12Record.T, ((acode E_sp_l12Record tt Z_sp_l12Record (orcOf O_sp_l12Record) C_sp_l12Record (entry A_sp_l12Record I_sp_l12Record x)).map (keepRet tt K_sp_l12Record)).ev = ((T_sp_l12Record x.1.1.1 x.1.1.2.1).map fun r => some ((((r, ()), ())) : K_sp_l12Record.T)).ev := fun _ => by kernel_rfl

theorem o_sp_l12Record : LoopsOK E_sp_l12Record tt Z_sp_l12Record O_sp_l12Record C_sp_l12Record := by
  have h : loopsOf C_sp_l12Record = [] := by kernel_rfl
  unfold LoopsOK
  rw [h]
  exact fun _ h => absurd h List.not_mem_nil

theorem ok_sp_l12Record : FnOK prog E_sp_l12Record tt 18 D_sp_l12Record K_sp_l12Record Z_sp_l12Record O_sp_l12Record f18 C_sp_l12Record (fun x => T_sp_l12Record x.1.1.1 x.1.1.2.1) (fun r => ((r, ()), ())) where
  at_ := func18
  name := by kernel_rfl
  body := by kernel_rfl
  res := by kernel_rfl
  ok := by kernel_rfl
  arity := fun _ => Nat.le_of_ble_eq_true (by kernel_rfl)
  pin := fun _ => by kernel_rfl
  chk := by kernel_rfl
  loops := o_sp_l12Record
  run := e_sp_l12Record
  F := fun _ => rfl
  emb := fun _ => rfl

theorem fd_sp_l12Record : FDok prog (18, D_sp_l12Record) := fn_ok mixed (env_ok (List.forall_mem_cons.2 ⟨fd_sp_l12Bytes, List.forall_mem_cons.2 ⟨fd_sp_l1Stands, fun _ h => absurd h List.not_mem_nil⟩⟩)) tabOK ok_sp_l12Record

theorem e_sp_IsValidRecord : ∀ x : D_sp_IsValidRecord.T, ((acode E_sp_IsValidRecord tt Z_sp_IsValidRecord (orcOf O_sp_IsValidRecord) C_sp_IsValidRecord (entry A_sp_IsValidRecord I_sp_IsValidRecord x)).map (keepRet tt K_sp_IsValidRecord)).ev = ((T_sp_IsValidRecord x.1.1.1 x.1.1.2.1).map fun r => some ((((r, ()), ())) : K_sp_IsValidRecord.T)).ev := fun _ => by kernel_rfl

theorem o_sp_IsValidRecord : LoopsOK E_sp_IsValidRecord tt Z_sp_IsValidRecord O_sp_IsValidRecord C_sp_IsValidRecord := by
  have h : loopsOf C_sp_IsValidRecord = [] := by kernel_rfl
  unfold LoopsOK
  rw [h]
  exact fun _ h => absurd h List.not_mem_nil

theorem ok_sp_IsValidRecord : FnOK prog E_sp_IsValidRecord tt 6 D_sp_IsValidRecord K_sp_IsValidRecord Z_sp_IsValidRecord O_sp_IsValidRecord f6 C_sp_IsValidRecord (fun x => T_sp_IsValidRecord x.1.1.1 x.1.1.2.1) (fun r => ((r, ()), ())) where
  at_ := func6
  name := by kernel_rfl
  body := by kernel_rfl
  res := by kernel_rfl
  ok := by kernel_rfl
  arity := fun _ => Nat.le_of_ble_eq_true (by kernel_rfl)
  pin := fun _ => by kernel_rfl
  chk := by kernel_rfl
  loops := o_sp_IsValidRecord
  run := e_sp_IsValidRecord
  F := fun _ => rfl
  emb := fun _ => rfl

theorem fd_sp_IsValidRecord : FDok prog (6, D_sp_IsValidRecord) := fn_ok mixed (env_ok (List.forall_mem_cons.2 ⟨fd_sp_l12Record, fun _ h => absurd h List.not_mem_nil⟩)) tabOK ok_sp_IsValidRecord

theorem e_im_isPlain : ∀ x : D_im_isPlain.T, ((acode E_im_isPlain tt Z_im_isPlain (orcOf O_im_isPlain) C_im_isPlain (entry A_im_isPlain I_im_isPlain x)).map (keepRet tt K_im_isPlain)).ev = ((T_im_isPlain x.1.1 x.1.2.1).map fun r => some ((((r, ()), ())) : K_im_isPlain.T)).ev := fun _ => by kernel_rfl

noncomputable def B_im_isPlain_0 : Code := ((loopsOf C_im_isPlain).find? fun p => Nat.beq p.1 0).elim .skip (·.2)
theorem l_im_isPlain_0 : (DL_im_isPlain_0).OK E_im_isPlain tt Z_im_isPlain (orcOf O_im_isPlain) B_im_isPlain_0 where
  ok := by kernel_rfl
  oke := by kernel_rfl
  okr := by kernel_rfl
  eta := fun _ => rfl
  step := fun _ _ => by kernel_rfl

theorem o_im_isPlain : LoopsOK E_im_isPlain tt Z_im_isPlain O_im_isPlain C_im_isPlain := by
  have h : loopsOf C_im_isPlain = [(0, B_im_isPlain_0)] := by kernel_rfl
  unfold LoopsOK
  rw [h]
  exact List.forall_mem_cons.2 ⟨fun d h => (by have e : some (DL_im_isPlain_0) = some d := h; cases e; exact l_im_isPlain_0), fun _ h => absurd h List.not_mem_nil⟩

theorem ok_im_isPlain : FnOK prog E_im_isPlain tt 19 D_im_isPlain K_im_isPlain Z_im_isPlain O_im_isPlain f19 C_im_isPlain (fun x => T_im_isPlain x.1.1 x.1.2.1) (fun r => ((r, ()), ())) where
  at_ := func19
  name := by kernel_rfl
  body := by kernel_rfl
  res := by kernel_rfl
  ok := by kernel_rfl
  arity := fun _ => Nat.le_of_ble_eq_true (by kernel_rfl)
  pin := fun _ => by kernel_rfl
  chk := by kernel_rfl
  loops := o_im_isPlain
  run := e_im_isPlain
  F := fun _ => rfl
  emb := fun _ => rfl

theorem fd_im_isPlain : FDok prog (19, D_im_isPlain) := fn_ok mixed (env_ok (fun _ h => absurd h List.not_mem_nil)) tabOK ok_im_isPlain

theorem fd_internal_bytealg_IndexByteString : FDok prog (90, D_internal_bytealg_IndexByteString) := hand_indexByte func90 (by kernel_rfl) (by kernel_rfl) (by kernel_rfl) (by kernel_rfl)

theorem e_internal_stringslite_IndexByte : ∀ x : D_internal_stringslite_IndexByte.T, ((acode E_internal_stringslite_IndexByte tt Z_internal_stringslite_IndexByte (orcOf O_internal_stringslite_IndexByte) C_internal_stringslite_IndexByte (entry A_internal_stringslite_IndexByte I_internal_stringslite_IndexByte x)).map (keepRet tt K_internal_stringslite_IndexByte)).ev = ((T_internal_stringslite_IndexByte x.1.1 x.1.2.1).map fun r => some ((((r, ()), ())) : K_internal_stringslite_IndexByte.T)).ev := fun _ => by kernel_rfl

theorem o_internal_stringslite_IndexByte : LoopsOK E_internal_stringslite_IndexByte tt Z_internal_stringslite_IndexByte O_internal_stringslite_IndexByte C_internal_stringslite_IndexByte := by
  have h : loopsOf C_internal_stringslite_IndexByte = [] := by kernel_rfl
  unfold LoopsOK
  rw [h]
  exact fun _ h => absurd h List.not_mem_nil

theorem ok_internal_stringslite_IndexByte : FnOK prog E_internal_stringslite_IndexByte tt 73 D_internal_stringslite_IndexByte K_internal_stringslite_IndexByte Z_internal_stringslite_IndexByte O_internal_stringslite_IndexByte f73 C_internal_stringslite_IndexByte (fun x => T_internal_stringslite_IndexByte x.1.1 x.1.2.1) (fun r => ((r, ()), ())) where
  at_ := func73
  name := by kernel_rfl
  body := by kernel_rfl
  res := by kernel_rfl
  ok := by kernel_rfl
  arity := fun _ => Nat.le_of_ble_eq_true (by kernel_rfl)
  pin := fun _ => by kernel_rfl
  chk := by kernel_rfl
  loops := o_internal_stringslite_IndexByte
  run := e_internal_stringslite_IndexByte
  F := fun _ => rfl
  emb := fun _ => rfl

theorem fd_internal_stringslite_IndexByte : FDok prog (73, D_internal_stringslite_IndexByte) := fn_ok mixed (env_ok (List.forall_mem_cons.2 ⟨fd_internal_bytealg_IndexByteString, fun _ h => absurd h List.not_mem_nil⟩)) tabOK ok_internal_stringslite_IndexByte

theorem e_internal_stringslite_Index : ∀ x : D_internal_stringslite_Index.T, ((acode E_internal_stringslite_Index tt Z_internal_stringslite_Index (orcOf O_internal_stringslite_Index) C_internal_stringslite_Index (entry A_internal_stringslite_Index I_internal_stringslite_Index x)).map (keepRet tt K_internal_stringslite_Index)).ev = ((T_internal_stringslite_Index x.1.1 x.1.2.1).map fun r => some ((((r, ()), ())) : K_internal_stringslite_Index.T)).ev := fun _ => by kernel_rfl

noncomputable def B_internal_stringslite_Index_1 : Code := ((loopsOf C_internal_stringslite_Index).find? fun p => Nat.beq p.1 1).elim .skip (·.2)

theorem o_internal_stringslite_Index : LoopsOK E_internal_stringslite_Index tt Z_internal_stringslite_Index O_internal_stringslite_Index C_internal_stringslite_Index := by
  have h : loopsOf C_internal_stringslite_Index = [(1, B_internal_stringslite_Index_1)] := by kernel_rfl
  unfold LoopsOK
  rw [h]
  exact List.forall_mem_cons.2 ⟨fun d h => (by have e : (none : Option LD) = some d := h; cases e), fun _ h => absurd h List.not_mem_nil⟩

theorem ok_internal_stringslite_Index : FnOK prog E_internal_stringslite_Index tt 57 D_internal_stringslite_Index K_internal_stringslite_Index Z_internal_stringslite_Index O_internal_stringslite_Index f57 C_internal_stringslite_Index (fun x => T_internal_stringslite_Index x.1.1 x.1.2.1) (fun r => ((r, ()), ())) where
  at_ := func57
  name := by kernel_rfl
  body := by kernel_rfl
  res := by kernel_rfl
  ok := by kernel_rfl
  arity := fun _ => Nat.le_of_ble_eq_true (by kernel_rfl)
  pin := fun _ => by kernel_rfl
  chk := by kernel_rfl
  loops := o_internal_stringslite_Index
  run := e_internal_stringslite_Index
  F := fun _ => rfl
  emb := fun _ => rfl

theorem fd_internal_stringslite_Index : FDok prog (57, D_internal_stringslite_Index) := fn_ok mixed (env_ok (List.forall_mem_cons.2 ⟨fd_internal_stringslite_IndexByte, fun _ h => absurd h List.not_mem_nil⟩)) tabOK ok_internal_stringslite_Index

theorem e_strings_Index : ∀ x : D_strings_Index.T, ((acode E_strings_Index tt Z_strings_Index (orcOf O_strings_Index) C_strings_Index (entry A_strings_Index I_strings_Index x)).map (keepRet tt K_strings_Index)).ev = ((T_strings_Index x.1.1 x.1.2.1).map fun r => some ((((r, ()), ())) : K_strings_Index.T)).ev := fun _ => by kernel_rfl

theorem o_strings_Index : LoopsOK E_strings_Index tt Z_strings_Index O_strings_Index C_strings_Index := by
  have h : loopsOf C_strings_Index = [] := by kernel_rfl
  unfold LoopsOK
  rw [h]
  exact fun _ h => absurd h List.not_mem_nil

theorem ok_strings_Index : FnOK prog E_strings_Index tt 37 D_strings_Index K_strings_Index Z_strings_Index O_strings_Index f37 C_strings_Index (fun x => T_strings_Index x.1.1 x.1.2.1) (fun r => ((r, ()), ())) where
  at_ := func37
  name := by kernel_rfl
  body := by kernel_rfl
  res := by kernel_rfl
  ok := by kernel_rfl
  arity := fun _ => Nat.le_of_ble_eq_true (by kernel_rfl)
  pin := fun _ => by kernel_rfl
  chk := by kernel_rfl
  loops := o_strings_Index
  run := e_strings_Index
  F := fun _ => rfl
  emb := fun _ => rfl

theorem fd_strings_Index : FDok prog (37, D_strings_Index) := fn_ok mixed (env_ok (List.forall_mem_cons.2 ⟨fd_internal_stringslite_Index, fun _ h => absurd h List.not_mem_nil⟩)) tabOK ok_strings_Index

theorem e_strings_Contains : ∀ x : D_strings_Contains.T, ((acode E_strings_Contains tt Z_strings_Contains (orcOf O_strings_Contains) C_strings_Contains (entry A_strings_Contains I_strings_Contains x)).map (keepRet tt K_strings_Contains)).ev = ((T_strings_Contains x.1.1 x.1.2.1).map fun r => some ((((r, ()), ())) : K_strings_Contains.T)).ev := fun _ => by kernel_rfl

theorem o_strings_Contains : LoopsOK E_strings_Contains tt Z_strings_Contains O_strings_Contains C_strings_Contains := by
  have h : loopsOf C_strings_Contains = [] := by kernel_rfl
  unfold LoopsOK
  rw [h]
  exact fun _ h => absurd h List.not_mem_nil

theorem ok_strings_Contains : FnOK prog E_strings_Contains tt 20 D_strings_Contains K_strings_Contains Z_strings_Contains O_strings_Contains f20 C_strings_Contains (fun x => T_strings_Contains x.1.1 x.1.2.1) (fun r => ((r, ()), ())) where
  at_ := func20
  name := by kernel_rfl
  body := by kernel_rfl
  res := by kernel_rfl
  ok := by kernel_rfl
  arity := fun _ => Nat.le_of_ble_eq_true (by kernel_rfl)
  pin := fun _ => by kernel_rfl
  chk := by kernel_rfl
  loops := o_strings_Contains
  run := e_strings_Contains
  F := fun _ => rfl
  emb := fun _ => rfl

theorem fd_strings_Contains : FDok prog (20, D_strings_Contains) := fn_ok mixed (env_ok (List.forall_mem_cons.2 ⟨fd_strings_Index, fun _ h => absurd h List.not_mem_nil⟩)) tabOK ok_strings_Contains

theorem e_im_IsValidRecord : ∀ x : D_im_IsValidRecord.T, ((acode E_im_IsValidRecord tt Z_im_IsValidRecord (orcOf O_im_IsValidRecord) C_im_IsValidRecord (entry A_im_IsValidRecord I_im_IsValidRecord x)).map (keepRet tt K_im_IsValidRecord)).ev = ((T_im_IsValidRecord x.1.1.1 x.1.1.2.1).map fun r => some ((((r, ()), ())) : K_im_IsValidRecord.T)).ev := fun _ => by kernel_rfl

theorem o_im_IsValidRecord : LoopsOK E_im_IsValidRecord tt Z_im_IsValidRecord O_im_IsValidRecord C_im_IsValidRecord := by
  have h : loopsOf C_im_IsValidRecord = [] := by kernel_rfl
  unfold LoopsOK
  rw [h]
  exact fun _ h => absurd h List.not_mem_nil

theorem ok_im_IsValidRecord : FnOK prog E_im_IsValidRecord tt 8 D_im_IsValidRecord K_im_IsValidRecord Z_im_IsValidRecord O_im_IsValidRecord f8 C_im_IsValidRecord (fun x => T_im_IsValidRecord x.1.1.1 x.1.1.2.1) (fun r => ((r, ()), ())) where
  at_ := func8
  name := by kernel_rfl
  body := by kernel_rfl
  res := by kernel_rfl
  ok := by kernel_rfl
  arity := fun _ => Nat.le_of_ble_eq_true (by kernel_rfl)
  pin := fun _ => by kernel_rfl
  chk := by kernel_rfl
  loops := o_im_IsValidRecord
  run := e_im_IsValidRecord
  F := fun _ => rfl
  emb := fun _ => rfl

theorem fd_im_IsValidRecord : FDok prog (8, D_im_IsValidRecord) := fn_ok mixed (env_ok (List.forall_mem_cons.2 ⟨fd_im_isPlain, List.forall_mem_cons.2 ⟨fd_strings_Contains, fun _ h => absurd h List.not_mem_nil⟩⟩)) tabOK ok_im_IsValidRecord

theorem e_lw_FnExactIsValidRecord : ∀ x : D_lw_FnExactIsValidRecord.T, ((acode E_lw_FnExactIsValidRecord tt Z_lw_FnExactIsValidRecord (orcOf O_lw_FnExactIsValidRecord) C_lw_FnExactIsValidRecord (entry A_lw_FnExactIsValidRecord I_lw_FnExactIsValidRecord x)).map (keepRet tt K_lw_FnExactIsValidRecord)).ev = ((T_lw_FnExactIsValidRecord x.1.1.1 x.1.1.2.1).map fun r => some ((((r, ()), ())) : K_lw_FnExactIsValidRecord.T)).ev := fun _ => by kernel_rfl

theorem o_lw_FnExactIsValidRecord : LoopsOK E_lw_FnExactIsValidRecord tt Z_lw_FnExactIsValidRecord O_lw_FnExactIsValidRecord C_lw_FnExactIsValidRecord := by
  have h : loopsOf C_lw_FnExactIsValidRecord = [] := by kernel_rfl
  unfold LoopsOK
  rw [h]
  exact fun _ h => absurd h List.not_mem_nil

theorem ok_lw_FnExactIsValidRecord : FnOK prog E_lw_FnExactIsValidRecord tt 3 D_lw_FnExactIsValidRecord K_lw_FnExactIsValidRecord Z_lw_FnExactIsValidRecord O_lw_FnExactIsValidRecord f3 C_lw_FnExactIsValidRecord (fun x => T_lw_FnExactIsValidRecord x.1.1.1 x.1.1.2.1) (fun r => ((r, ()), ())) where
  at_ := func3
  name := by kernel_rfl
  body := by kernel_rfl
  res := by kernel_rfl
  ok := by kernel_rfl
  arity := fun _ => Nat.le_of_ble_eq_true (by kernel_rfl)
  pin := fun _ => by kernel_rfl
  chk := by kernel_rfl
  loops := o_lw_FnExactIsValidRecord
  run := e_lw_FnExactIsValidRecord
  F := fun _ => rfl
  emb := fun _ => rfl

theorem fd_lw_FnExactIsValidRecord : FDok prog (3, D_lw_FnExactIsValidRecord) := fn_ok mixed (env_ok (List.forall_mem_cons.2 ⟨fd_lw_szLogRecord, List.forall_mem_cons.2 ⟨fd_lw_toLogRecord, List.forall_mem_cons.2 ⟨fd_sp_IsValidRecord, List.forall_mem_cons.2 ⟨fd_im_IsValidRecord, fun _ h => absurd h List.not_mem_nil⟩⟩⟩⟩)) tabOK ok_lw_FnExactIsValidRecord
end Go.Proofs.Ytakbhfnndcnopaa
