import Derived.Test.YtakbhfnndcnopaaDoorC1
namespace Go.Proofs.YtakbhfnndcnopaaDoor
open Go.Proofs.Tryd

theorem mixed : prog.follows .mixedOrders = true := by kernel_rfl
theorem tabOK : TabOK prog tt := tab_ok (by kernel_rfl)

theorem e_lw_szLogRecord : ∀ x : D_lw_szLogRecord.T, ((acode E_lw_szLogRecord tt Z_lw_szLogRecord (orcOf O_lw_szLogRecord) C_lw_szLogRecord (entry A_lw_szLogRecord I_lw_szLogRecord x)).map (keepRet tt K_lw_szLogRecord)).ev = ((T_lw_szLogRecord x.1.1.1 x.1.1.2.1 x.1.2.1).map fun r => some ((((r, ()), ())) : K_lw_szLogRecord.T)).ev := fun _ => by kernel_rfl

theorem o_lw_szLogRecord : LoopsOK E_lw_szLogRecord tt Z_lw_szLogRecord O_lw_szLogRecord C_lw_szLogRecord := by
  have h : loopsOf C_lw_szLogRecord = [] := by kernel_rfl
  unfold LoopsOK
  rw [h]
  exact fun _ h => absurd h List.not_mem_nil

theorem ok_lw_szLogRecord : FnOK prog E_lw_szLogRecord tt 13 D_lw_szLogRecord K_lw_szLogRecord Z_lw_szLogRecord O_lw_szLogRecord f13 C_lw_szLogRecord (fun x => T_lw_szLogRecord x.1.1.1 x.1.1.2.1 x.1.2.1) (fun r => ((r, ()), ())) where
  at_ := func13
  name := by kernel_rfl
  body := by kernel_rfl
  res := by kernel_rfl
  ok := by kernel_rfl
  arity := fun _ => Nat.le_of_ble_eq_true (by kernel_rfl)
  pin := fun _ => by kernel_rfl
  chk := by kernel_rfl
  loops := o_lw_szLogRecord
  run := e_lw_szLogRecord
  F := fun _ => rfl
  emb := fun _ => rfl

theorem fd_lw_szLogRecord : FDok prog (13, D_lw_szLogRecord) := fn_ok mixed (env_ok (fun _ h => absurd h List.not_mem_nil)) tabOK ok_lw_szLogRecord

theorem e_lw_toLogRecord : ∀ x : D_lw_toLogRecord.T, ((acode E_lw_toLogRecord tt Z_lw_toLogRecord (orcOf O_lw_toLogRecord) C_lw_toLogRecord (entry A_lw_toLogRecord I_lw_toLogRecord x)).map (keepRet tt K_lw_toLogRecord)).ev = ((T_lw_toLogRecord x.1.1.1 x.1.1.2.1).map fun r => some (((((r.1, (r.2, ())), ()), ())) : K_lw_toLogRecord.T)).ev := fun _ => by kernel_rfl

theorem o_lw_toLogRecord : LoopsOK E_lw_toLogRecord tt Z_lw_toLogRecord O_lw_toLogRecord C_lw_toLogRecord := by
  have h : loopsOf C_lw_toLogRecord = [] := by kernel_rfl
  unfold LoopsOK
  rw [h]
  exact fun _ h => absurd h List.not_mem_nil

theorem ok_lw_toLogRecord : FnOK prog E_lw_toLogRecord tt 15 D_lw_toLogRecord K_lw_toLogRecord Z_lw_toLogRecord O_lw_toLogRecord f15 C_lw_toLogRecord (fun x => T_lw_toLogRecord x.1.1.1 x.1.1.2.1) (fun r => (((r.1, (r.2, ())), ()), ())) where
  at_ := func15
  name := by kernel_rfl
  body := by kernel_rfl
  res := by kernel_rfl
  ok := by kernel_rfl
  arity := fun _ => Nat.le_of_ble_eq_true (by kernel_rfl)
  pin := fun _ => by kernel_rfl
  chk := by kernel_rfl
  loops := o_lw_toLogRecord
  run := e_lw_toLogRecord
  F := fun _ => rfl
  emb := fun _ => rfl

theorem fd_lw_toLogRecord : FDok prog (15, D_lw_toLogRecord) := fn_ok mixed (env_ok (fun _ h => absurd h List.not_mem_nil)) tabOK ok_lw_toLogRecord

theorem e_sp_l1In : ∀ x : D_sp_l1In.T, ((acode E_sp_l1In tt Z_sp_l1In (orcOf O_sp_l1In) C_sp_l1In (entry A_sp_l1In I_sp_l1In x)).map (keepRet tt K_sp_l1In)).ev = ((T_sp_l1In x.1.1 x.1.2.1 x.1.2.2.1).map fun r => some ((((r, ()), ())) : K_sp_l1In.T)).ev := fun _ => by kernel_rfl

theorem o_sp_l1In : LoopsOK E_sp_l1In tt Z_sp_l1In O_sp_l1In C_sp_l1In := by
  have h : loopsOf C_sp_l1In = [] := by kernel_rfl
  unfold LoopsOK
  rw [h]
  exact fun _ h => absurd h List.not_mem_nil

theorem ok_sp_l1In : FnOK prog E_sp_l1In tt 51 D_sp_l1In K_sp_l1In Z_sp_l1In O_sp_l1In f51 C_sp_l1In (fun x => T_sp_l1In x.1.1 x.1.2.1 x.1.2.2.1) (fun r => ((r, ()), ())) where
  at_ := func51
  name := by kernel_rfl
  body := by kernel_rfl
  res := by kernel_rfl
  ok := by kernel_rfl
  arity := fun _ => Nat.le_of_ble_eq_true (by kernel_rfl)
  pin := fun _ => by kernel_rfl
  chk := by kernel_rfl
  loops := o_sp_l1In
  run := e_sp_l1In
  F := fun _ => rfl
  emb := fun _ => rfl

theorem fd_sp_l1In : FDok prog (51, D_sp_l1In) := fn_ok mixed (env_ok (fun _ h => absurd h List.not_mem_nil)) tabOK ok_sp_l1In

theorem e_sp_l12Bytes : ∀ x : D_sp_l12Bytes.T, ((acode E_sp_l12Bytes tt Z_sp_l12Bytes (orcOf O_sp_l12Bytes) C_sp_l12Bytes (entry A_sp_l12Bytes I_sp_l12Bytes x)).map (keepRet tt K_sp_l12Bytes)).ev = ((T_sp_l12Bytes x.1.1 x.1.2.1).map fun r => some ((((r, ()), ())) : K_sp_l12Bytes.T)).ev := fun _ => by kernel_rfl

noncomputable def B_sp_l12Bytes_0 : Code := ((loopsOf C_sp_l12Bytes).find? fun p => Nat.beq p.1 0).elim .skip (·.2)
theorem l_sp_l12Bytes_0 : (DL_sp_l12Bytes_0).OK E_sp_l12Bytes tt Z_sp_l12Bytes (orcOf O_sp_l12Bytes) B_sp_l12Bytes_0 where
  ok := by kernel_rfl
  oke := by kernel_rfl
  okr := by kernel_rfl
  eta := fun _ => rfl
  step := fun _ _ => by kernel_rfl

theorem o_sp_l12Bytes : LoopsOK E_sp_l12Bytes tt Z_sp_l12Bytes O_sp_l12Bytes C_sp_l12Bytes := by
  have h : loopsOf C_sp_l12Bytes = [(0, B_sp_l12Bytes_0)] := by kernel_rfl
  unfold LoopsOK
  rw [h]
  exact List.forall_mem_cons.2 ⟨fun d h => (by have e : some (DL_sp_l12Bytes_0) = some d := h; cases e; exact l_sp_l12Bytes_0), fun _ h => absurd h List.not_mem_nil⟩

theorem ok_sp_l12Bytes : FnOK prog E_sp_l12Bytes tt 76 D_sp_l12Bytes K_sp_l12Bytes Z_sp_l12Bytes O_sp_l12Bytes f76 C_sp_l12Bytes (fun x => T_sp_l12Bytes x.1.1 x.1.2.1) (fun r => ((r, ()), ())) where
  at_ := func76
  name := by kernel_rfl
  body := by kernel_rfl
  res := by kernel_rfl
  ok := by kernel_rfl
  arity := fun _ => Nat.le_of_ble_eq_true (by kernel_rfl)
  pin := fun _ => by kernel_rfl
  chk := by kernel_rfl
  loops := o_sp_l12Bytes
  run := e_sp_l12Bytes
  F := fun _ => rfl
  emb := fun _ => rfl

theorem fd_sp_l12Bytes : FDok prog (76, D_sp_l12Bytes) := fn_ok mixed (env_ok (List.forall_mem_cons.2 ⟨fd_sp_l1In, fun _ h => absurd h List.not_mem_nil⟩)) tabOK ok_sp_l12Bytes

theorem e_sp_l1Stands : ∀ x : D_sp_l1Stands.T, ((acode E_sp_l1Stands tt Z_sp_l1Stands (orcOf O_sp_l1Stands) C_sp_l1Stands (entry A_sp_l1Stands I_sp_l1Stands x)).map (keepRet tt K_sp_l1Stands)).ev = ((T_sp_l1Stands x.1.1 x.1.2.1).map fun r => some ((((r, ()), ())) : K_sp_l1Stands.T)).ev := fun _ => by kernel_rfl

noncomputable def B_sp_l1Stands_0 : Code := ((loopsOf C_sp_l1Stands).find? fun p => Nat.beq p.1 0).elim .skip (·.2)
theorem l_sp_l1Stands_0 : (DL_sp_l1Stands_0).OK E_sp_l1Stands tt Z_sp_l1Stands (orcOf O_sp_l1Stands) B_sp_l1Stands_0 where
  ok := by kernel_rfl
  oke := by kernel_rfl
  okr := by kernel_rfl
  eta := fun _ => rfl
  step := fun _ _ => by kernel_rfl

theorem o_sp_l1Stands : LoopsOK E_sp_l1Stands tt Z_sp_l1Stands O_sp_l1Stands C_sp_l1Stands := by
  have h : loopsOf C_sp_l1Stands = [(0, B_sp_l1Stands_0)] := by kernel_rfl
  unfold LoopsOK
  rw [h]
  exact List.forall_mem_cons.2 ⟨fun d h => (by have e : some (DL_sp_l1Stands_0) = some d := h; cases e; exact l_sp_l1Stands_0), fun _ h => absurd h List.not_mem_nil⟩

theorem ok_sp_l1Stands : FnOK prog E_sp_l1Stands tt 77 D_sp_l1Stands K_sp_l1Stands Z_sp_l1Stands O_sp_l1Stands f77 C_sp_l1Stands (fun x => T_sp_l1Stands x.1.1 x.1.2.1) (fun r => ((r, ()), ())) where
  at_ := func77
  name := by kernel_rfl
  body := by kernel_rfl
  res := by kernel_rfl
  ok := by kernel_rfl
  arity := fun _ => Nat.le_of_ble_eq_true (by kernel_rfl)
  pin := fun _ => by kernel_rfl
  chk := by kernel_rfl
  loops := o_sp_l1Stands
  run := e_sp_l1Stands
  F := fun _ => rfl
  emb := fun _ => rfl

theorem fd_sp_l1Stands : FDok prog (77, D_sp_l1Stands) := fn_ok mixed (env_ok (fun _ h => absurd h List.not_mem_nil)) tabOK ok_sp_l1Stands

theorem e_sp_l12Record : ∀ x : D_sp_l12Record.T, ((acode E_sp_l12Record tt Z_sp_l12Record (orcOf O_sp_l12Record) C_sp_l12Record (entry A_sp_l12Record I_sp_l12Record x)).map (keepRet tt K_sp_l12Record)).ev = ((T_sp_l12Record x.1.1.1 x.1.1.2.1).map fun r => some ((((r, ()), ())) : K_sp_l12Record.T)).ev := fun _ => by kernel_rfl

theorem o_sp_l12Record : LoopsOK E_sp_l12Record tt Z_sp_l12Record O_sp_l12Record C_sp_l12Record := by
  have h : loopsOf C_sp_l12Record = [] := by kernel_rfl
  unfold LoopsOK
  rw [h]
  exact fun _ h => absurd h List.not_mem_nil

theorem ok_sp_l12Record : FnOK prog E_sp_l12Record tt 52 D_sp_l12Record K_sp_l12Record Z_sp_l12Record O_sp_l12Record f52 C_sp_l12Record (fun x => T_sp_l12Record x.1.1.1 x.1.1.2.1) (fun r => ((r, ()), ())) where
  at_ := func52
  name := by kernel_rfl
  body := by kernel_rfl
  res := by kernel_rfl
  ok := by kernel_rfl
  arity := fun _ => Nat.le_of_ble_eq_true (by kernel_rfl)
  pin := fun _ => by kernel_rfl
  chk := by kernel_rfl
  loops := o_sp_l12Record
  run := e_sp_l12Record
  F := fun _ => rfl
  emb := fun _ => rfl

theorem fd_sp_l12Record : FDok prog (52, D_sp_l12Record) := fn_ok mixed (env_ok (List.forall_mem_cons.2 ⟨fd_sp_l12Bytes, List.forall_mem_cons.2 ⟨fd_sp_l1Stands, fun _ h => absurd h List.not_mem_nil⟩⟩)) tabOK ok_sp_l12Record

theorem e_sp_l1Num (rec_ : (Int) → Option (List UInt8)) : ∀ x : (Dr_sp_l1Num rec_).T, ((acode (E_sp_l1Num rec_) tt Z_sp_l1Num (orcOf (O_sp_l1Num rec_)) C_sp_l1Num (entry A_sp_l1Num I_sp_l1Num x)).map (keepRet tt K_sp_l1Num)).ev = ((T_sp_l1Num rec_ x.1.1).map fun r => some ((((r, ()), ())) : K_sp_l1Num.T)).ev := fun _ => by kernel_rfl

theorem o_sp_l1Num (rec_ : (Int) → Option (List UInt8)) : LoopsOK (E_sp_l1Num rec_) tt Z_sp_l1Num (O_sp_l1Num rec_) C_sp_l1Num := by
  have h : loopsOf C_sp_l1Num = [] := by kernel_rfl
  unfold LoopsOK
  rw [h]
  exact fun _ h => absurd h List.not_mem_nil

theorem ok_sp_l1Num (n : Nat) : FnOK prog (E_sp_l1Num (F_sp_l1Num n)) tt 79 (D_sp_l1Num (n + 1)) K_sp_l1Num Z_sp_l1Num (O_sp_l1Num (F_sp_l1Num n)) f79 C_sp_l1Num (fun x => T_sp_l1Num (F_sp_l1Num n) x.1.1) (fun r => ((r, ()), ())) where
  at_ := func79
  name := by kernel_rfl
  body := by kernel_rfl
  res := by kernel_rfl
  ok := by kernel_rfl
  arity := fun _ => Nat.le_of_ble_eq_true (by kernel_rfl)
  pin := fun _ => by kernel_rfl
  chk := by kernel_rfl
  loops := o_sp_l1Num (F_sp_l1Num n)
  run := e_sp_l1Num (F_sp_l1Num n)
  F := fun _ => rfl
  emb := fun _ => rfl

theorem fd_sp_l1Num : ∀ n : Nat, FDok prog (79, D_sp_l1Num n)
  | 0 => fun _ _ h => nomatch h
  | n + 1 => fn_ok mixed (env_ok (List.forall_mem_cons.2 ⟨fd_sp_l1Num n, fun _ h => absurd h List.not_mem_nil⟩)) tabOK (ok_sp_l1Num n)

theorem e_sp_l1Sum : ∀ x : D_sp_l1Sum.T, ((acode E_sp_l1Sum tt Z_sp_l1Sum (orcOf O_sp_l1Sum) C_sp_l1Sum (entry A_sp_l1Sum I_sp_l1Sum x)).map (keepRet tt K_sp_l1Sum)).ev = ((T_sp_l1Sum x.1.1).map fun r => some ((((r, ()), ())) : K_sp_l1Sum.T)).ev := fun _ => by kernel_rfl

noncomputable def B_sp_l1Sum_0 : Code := ((loopsOf C_sp_l1Sum).find? fun p => Nat.beq p.1 0).elim .skip (·.2)
theorem l_sp_l1Sum_0 : (DL_sp_l1Sum_0).OK E_sp_l1Sum tt Z_sp_l1Sum (orcOf O_sp_l1Sum) B_sp_l1Sum_0 where
  ok := by kernel_rfl
  oke := by kernel_rfl
  okr := by kernel_rfl
  eta := fun _ => rfl
  step := fun _ _ => by kernel_rfl

theorem o_sp_l1Sum : LoopsOK E_sp_l1Sum tt Z_sp_l1Sum O_sp_l1Sum C_sp_l1Sum := by
  have h : loopsOf C_sp_l1Sum = [(0, B_sp_l1Sum_0)] := by kernel_rfl
  unfold LoopsOK
  rw [h]
  exact List.forall_mem_cons.2 ⟨fun d h => (by have e : some (DL_sp_l1Sum_0) = some d := h; cases e; exact l_sp_l1Sum_0), fun _ h => absurd h List.not_mem_nil⟩

theorem ok_sp_l1Sum : FnOK prog E_sp_l1Sum tt 100 D_sp_l1Sum K_sp_l1Sum Z_sp_l1Sum O_sp_l1Sum f100 C_sp_l1Sum (fun x => T_sp_l1Sum x.1.1) (fun r => ((r, ()), ())) where
  at_ := func100
  name := by kernel_rfl
  body := by kernel_rfl
  res := by kernel_rfl
  ok := by kernel_rfl
  arity := fun _ => Nat.le_of_ble_eq_true (by kernel_rfl)
  pin := fun _ => by kernel_rfl
  chk := by kernel_rfl
  loops := o_sp_l1Sum
  run := e_sp_l1Sum
  F := fun _ => rfl
  emb := fun _ => rfl

theorem fd_sp_l1Sum : FDok prog (100, D_sp_l1Sum) := fn_ok mixed (env_ok (fun _ h => absurd h List.not_mem_nil)) tabOK ok_sp_l1Sum

theorem e_sp_l1Seal : ∀ x : D_sp_l1Seal.T, ((acode E_sp_l1Seal tt Z_sp_l1Seal (orcOf O_sp_l1Seal) C_sp_l1Seal (entry A_sp_l1Seal I_sp_l1Seal x)).map (keepRet tt K_sp_l1Seal)).ev = ((T_sp_l1Seal x.1.1).map fun r => some ((((r, ()), ())) : K_sp_l1Seal.T)).ev := fun _ => by kernel_rfl

theorem o_sp_l1Seal : LoopsOK E_sp_l1Seal tt Z_sp_l1Seal O_sp_l1Seal C_sp_l1Seal := by
  have h : loopsOf C_sp_l1Seal = [] := by kernel_rfl
  unfold LoopsOK
  rw [h]
  exact fun _ h => absurd h List.not_mem_nil

theorem ok_sp_l1Seal : FnOK prog E_sp_l1Seal tt 78 D_sp_l1Seal K_sp_l1Seal Z_sp_l1Seal O_sp_l1Seal f78 C_sp_l1Seal (fun x => T_sp_l1Seal x.1.1) (fun r => ((r, ()), ())) where
  at_ := func78
  name := by kernel_rfl
  body := by kernel_rfl
  res := by kernel_rfl
  ok := by kernel_rfl
  arity := fun _ => Nat.le_of_ble_eq_true (by kernel_rfl)
  pin := fun _ => by kernel_rfl
  chk := by kernel_rfl
  loops := o_sp_l1Seal
  run := e_sp_l1Seal
  F := fun _ => rfl
  emb := fun _ => rfl

theorem fd_sp_l1Seal : FDok prog (78, D_sp_l1Seal) := fn_ok mixed (env_ok (List.forall_mem_cons.2 ⟨fd_sp_l1Sum, List.forall_mem_cons.2 ⟨fd_sp_l1Num 1000000, fun _ h => absurd h List.not_mem_nil⟩⟩)) tabOK ok_sp_l1Seal

theorem e_sp_l12Line : ∀ x : D_sp_l12Line.T, ((acode E_sp_l12Line tt Z_sp_l12Line (orcOf O_sp_l12Line) C_sp_l12Line (entry A_sp_l12Line I_sp_l12Line x)).map (keepRet tt K_sp_l12Line)).ev = ((T_sp_l12Line x.1.1 x.1.2.1.1 x.1.2.1.2.1).map fun r => some ((((r, ()), ())) : K_sp_l12Line.T)).ev := fun _ => by kernel_rfl

theorem o_sp_l12Line : LoopsOK E_sp_l12Line tt Z_sp_l12Line O_sp_l12Line C_sp_l12Line := by
  have h : loopsOf C_sp_l12Line = [] := by kernel_rfl
  unfold LoopsOK
  rw [h]
  exact fun _ h => absurd h List.not_mem_nil

theorem ok_sp_l12Line : FnOK prog E_sp_l12Line tt 53 D_sp_l12Line K_sp_l12Line Z_sp_l12Line O_sp_l12Line f53 C_sp_l12Line (fun x => T_sp_l12Line x.1.1 x.1.2.1.1 x.1.2.1.2.1) (fun r => ((r, ()), ())) where
  at_ := func53
  name := by kernel_rfl
  body := by kernel_rfl
  res := by kernel_rfl
  ok := by kernel_rfl
  arity := fun _ => Nat.le_of_ble_eq_true (by kernel_rfl)
  pin := fun _ => by kernel_rfl
  chk := by kernel_rfl
  loops := o_sp_l12Line
  run := e_sp_l12Line
  F := fun _ => rfl
  emb := fun _ => rfl

theorem fd_sp_l12Line : FDok prog (53, D_sp_l12Line) := fn_ok mixed (env_ok (List.forall_mem_cons.2 ⟨fd_sp_l1Num 1000000, List.forall_mem_cons.2 ⟨fd_sp_l1Seal, fun _ h => absurd h List.not_mem_nil⟩⟩)) tabOK ok_sp_l12Line

theorem e_sp_EncodeRecord : ∀ x : D_sp_EncodeRecord.T, ((acode E_sp_EncodeRecord tt Z_sp_EncodeRecord (orcOf O_sp_EncodeRecord) C_sp_EncodeRecord (entry A_sp_EncodeRecord I_sp_EncodeRecord x)).map (keepRet tt K_sp_EncodeRecord)).ev = ((T_sp_EncodeRecord x.1.1 x.1.2.1.1 x.1.2.1.2.1).map fun r => some ((((r.1, (r.2, ())), ())) : K_sp_EncodeRecord.T)).ev := fun _ => by kernel_rfl

theorem o_sp_EncodeRecord : LoopsOK E_sp_EncodeRecord tt Z_sp_EncodeRecord O_sp_EncodeRecord C_sp_EncodeRecord := by
  have h : loopsOf C_sp_EncodeRecord = [] := by kernel_rfl
  unfold LoopsOK
  rw [h]
  exact fun _ h => absurd h List.not_mem_nil

theorem ok_sp_EncodeRecord : FnOK prog E_sp_EncodeRecord tt 14 D_sp_EncodeRecord K_sp_EncodeRecord Z_sp_EncodeRecord O_sp_EncodeRecord f14 C_sp_EncodeRecord (fun x => T_sp_EncodeRecord x.1.1 x.1.2.1.1 x.1.2.1.2.1) (fun r => ((r.1, (r.2, ())), ())) where
  at_ := func14
  name := by kernel_rfl
  body := by kernel_rfl
  res := by kernel_rfl
  ok := by kernel_rfl
  arity := fun _ => Nat.le_of_ble_eq_true (by kernel_rfl)
  pin := fun _ => by kernel_rfl
  chk := by kernel_rfl
  loops := o_sp_EncodeRecord
  run := e_sp_EncodeRecord
  F := fun _ => rfl
  emb := fun _ => rfl

theorem fd_sp_EncodeRecord : FDok prog (14, D_sp_EncodeRecord) := fn_ok mixed (env_ok (List.forall_mem_cons.2 ⟨fd_sp_l1In, List.forall_mem_cons.2 ⟨fd_sp_l12Record, List.forall_mem_cons.2 ⟨fd_sp_l12Line, fun _ h => absurd h List.not_mem_nil⟩⟩⟩)) tabOK ok_sp_EncodeRecord

theorem e_im_between : ∀ x : D_im_between.T, ((acode E_im_between tt Z_im_between (orcOf O_im_between) C_im_between (entry A_im_between I_im_between x)).map (keepRet tt K_im_between)).ev = ((T_im_between x.1.1 x.1.2.1 x.1.2.2.1).map fun r => some ((((r, ()), ())) : K_im_between.T)).ev := fun _ => by kernel_rfl

theorem o_im_between : LoopsOK E_im_between tt Z_im_between O_im_between C_im_between := by
  have h : loopsOf C_im_between = [] := by kernel_rfl
  unfold LoopsOK
  rw [h]
  exact fun _ h => absurd h List.not_mem_nil

theorem ok_im_between : FnOK prog E_im_between tt 54 D_im_between K_im_between Z_im_between O_im_between f54 C_im_between (fun x => T_im_between x.1.1 x.1.2.1 x.1.2.2.1) (fun r => ((r, ()), ())) where
  at_ := func54
  name := by kernel_rfl
  body := by kernel_rfl
  res := by kernel_rfl
  ok := by kernel_rfl
  arity := fun _ => Nat.le_of_ble_eq_true (by kernel_rfl)
  pin := fun _ => by kernel_rfl
  chk := by kernel_rfl
  loops := o_im_between
  run := e_im_between
  F := fun _ => rfl
  emb := fun _ => rfl

theorem fd_im_between : FDok prog (54, D_im_between) := fn_ok mixed (env_ok (fun _ h => absurd h List.not_mem_nil)) tabOK ok_im_between

theorem e_im_isPlain : ∀ x : D_im_isPlain.T, ((acode E_im_isPlain tt Z_im_isPlain (orcOf O_im_isPlain) C_im_isPlain (entry A_im_isPlain I_im_isPlain x)).map (keepRet tt K_im_isPlain)).ev = ((T_im_isPlain x.1.1 x.1.2.1).map fun r => some ((((r, ()), ())) : K_im_isPlain.T)).ev := fun _ => by kernel_rfl

noncomputable def B_im_isPlain_0 : Code := ((loopsOf C_im_isPlain).find? fun p => Nat.beq p.1 0).elim .skip (·.2)
theorem l_im_isPlain_0 : (DL_im_isPlain_0).OK E_im_isPlain tt Z_im_isPlain (orcOf O_im_isPlain) B_im_isPlain_0 where
  ok := by kernel_rfl
  oke := by kernel_rfl
  okr := by kernel_rfl
  eta := fun _ => rfl
  step := fun _ _ => by kernel_rfl

theorem o_im_isPlain : LoopsOK E_im_isPlain tt Z_im_isPlain O_im_isPlain C_im_isPlain := by
  have h : loopsOf C_im_isPlain = [(0, B_im_isPlain_0)] := by kernel_rfl
  unfold LoopsOK
  rw [h]
  exact List.forall_mem_cons.2 ⟨fun d h => (by have e : some (DL_im_isPlain_0) = some d := h; cases e; exact l_im_isPlain_0), fun _ h => absurd h List.not_mem_nil⟩

theorem ok_im_isPlain : FnOK prog E_im_isPlain tt 67 D_im_isPlain K_im_isPlain Z_im_isPlain O_im_isPlain f67 C_im_isPlain (fun x => T_im_isPlain x.1.1 x.1.2.1) (fun r => ((r, ()), ())) where
  at_ := func67
  name := by kernel_rfl
  body := by kernel_rfl
  res := by kernel_rfl
  ok := by kernel_rfl
  arity := fun _ => Nat.le_of_ble_eq_true (by kernel_rfl)
  pin := fun _ => by kernel_rfl
  chk := by kernel_rfl
  loops := o_im_isPlain
  run := e_im_isPlain
  F := fun _ => rfl
  emb := fun _ => rfl

theorem fd_im_isPlain : FDok prog (67, D_im_isPlain) := fn_ok mixed (env_ok (fun _ h => absurd h List.not_mem_nil)) tabOK ok_im_isPlain

theorem fd_internal_bytealg_IndexByteString : FDok prog (117, D_internal_bytealg_IndexByteString) := hand_indexByte func117 (by kernel_rfl) (by kernel_rfl) (by kernel_rfl) (by kernel_rfl)

theorem e_internal_stringslite_IndexByte : ∀ x : D_internal_stringslite_IndexByte.T, ((acode E_internal_stringslite_IndexByte tt Z_internal_stringslite_IndexByte (orcOf O_internal_stringslite_IndexByte) C_internal_stringslite_IndexByte (entry A_internal_stringslite_IndexByte I_internal_stringslite_IndexByte x)).map (keepRet tt K_internal_stringslite_IndexByte)).ev = ((T_internal_stringslite_IndexByte x.1.1 x.1.2.1).map fun r => some ((((r, ()), ())) : K_internal_stringslite_IndexByte.T)).ev := fun _ => by kernel_rfl

theorem o_internal_stringslite_IndexByte : LoopsOK E_internal_stringslite_IndexByte tt Z_internal_stringslite_IndexByte O_internal_stringslite_IndexByte C_internal_stringslite_IndexByte := by
  have h : loopsOf C_internal_stringslite_IndexByte = [] := by kernel_rfl
  unfold LoopsOK
  rw [h]
  exact fun _ h => absurd h List.not_mem_nil

theorem ok_internal_stringslite_IndexByte : FnOK prog E_internal_stringslite_IndexByte tt 102 D_internal_stringslite_IndexByte K_internal_stringslite_IndexByte Z_internal_stringslite_IndexByte O_internal_stringslite_IndexByte f102 C_internal_stringslite_IndexByte (fun x => T_internal_stringslite_IndexByte x.1.1 x.1.2.1) (fun r => ((r, ()), ())) where
  at_ := func102
  name := by kernel_rfl
  body := by kernel_rfl
  res := by kernel_rfl
  ok := by kernel_rfl
  arity := fun _ => Nat.le_of_ble_eq_true (by kernel_rfl)
  pin := fun _ => by kernel_rfl
  chk := by kernel_rfl
  loops := o_internal_stringslite_IndexByte
  run := e_internal_stringslite_IndexByte
  F := fun _ => rfl
  emb := fun _ => rfl

theorem fd_internal_stringslite_IndexByte : FDok prog (102, D_internal_stringslite_IndexByte) := fn_ok mixed (env_ok (List.forall_mem_cons.2 ⟨fd_internal_bytealg_IndexByteString, fun _ h => absurd h List.not_mem_nil⟩)) tabOK ok_internal_stringslite_IndexByte

theorem e_internal_stringslite_Index : ∀ x : D_internal_stringslite_Index.T, ((acode E_internal_stringslite_Index tt Z_internal_stringslite_Index (orcOf O_internal_stringslite_Index) C_internal_stringslite_Index (entry A_internal_stringslite_Index I_internal_stringslite_Index x)).map (keepRet tt K_internal_stringslite_Index)).ev = ((T_internal_stringslite_Index x.1.1 x.1.2.1).map fun r => some ((((r, ()), ())) : K_internal_stringslite_Index.T)).ev := fun _ => by kernel_rfl

noncomputable def B_internal_stringslite_Index_1 : Code := ((loopsOf C_internal_stringslite_Index).find? fun p => Nat.beq p.1 1).elim .skip (·.2)

theorem o_internal_stringslite_Index : LoopsOK E_internal_stringslite_Index tt Z_internal_stringslite_Index O_internal_stringslite_Index C_internal_stringslite_Index := by
  have h : loopsOf C_internal_stringslite_Index = [(1, B_internal_stringslite_Index_1)] := by kernel_rfl
  unfold LoopsOK
  rw [h]
  exact List.forall_mem_cons.2 ⟨fun d h => (by have e : (none : Option LD) = some d := h; cases e), fun _ h => absurd h List.not_mem_nil⟩

theorem ok_internal_stringslite_Index : FnOK prog E_internal_stringslite_Index tt 104 D_internal_stringslite_Index K_internal_stringslite_Index Z_internal_stringslite_Index O_internal_stringslite_Index f104 C_internal_stringslite_Index (fun x => T_internal_stringslite_Index x.1.1 x.1.2.1) (fun r => ((r, ()), ())) where
  at_ := func104
  name := by kernel_rfl
  body := by kernel_rfl
  res := by kernel_rfl
  ok := by kernel_rfl
  arity := fun _ => Nat.le_of_ble_eq_true (by kernel_rfl)
  pin := fun _ => by kernel_rfl
  chk := by kernel_rfl
  loops := o_internal_stringslite_Index
  run := e_internal_stringslite_Index
  F := fun _ => rfl
  emb := fun _ => rfl

theorem fd_internal_stringslite_Index : FDok prog (104, D_internal_stringslite_Index) := fn_ok mixed (env_ok (List.forall_mem_cons.2 ⟨fd_internal_stringslite_IndexByte, fun _ h => absurd h List.not_mem_nil⟩)) tabOK ok_internal_stringslite_Index

theorem e_strings_Index : ∀ x : D_strings_Index.T, ((acode E_strings_Index tt Z_strings_Index (orcOf O_strings_Index) C_strings_Index (entry A_strings_Index I_strings_Index x)).map (keepRet tt K_strings_Index)).ev = ((T_strings_Index x.1.1 x.1.2.1).map fun r => some ((((r, ()), ())) : K_strings_Index.T)).ev := fun _ => by kernel_rfl

theorem o_strings_Index : LoopsOK E_strings_Index tt Z_strings_Index O_strings_Index C_strings_Index := by
  have h : loopsOf C_strings_Index = [] := by kernel_rfl
  unfold LoopsOK
  rw [h]
  exact fun _ h => absurd h List.not_mem_nil

theorem ok_strings_Index : FnOK prog E_strings_Index tt 89 D_strings_Index K_strings_Index Z_strings_Index O_strings_Index f89 C_strings_Index (fun x => T_strings_Index x.1.1 x.1.2.1) (fun r => ((r, ()), ())) where
  at_ := func89
  name := by kernel_rfl
  body := by kernel_rfl
  res := by kernel_rfl
  ok := by kernel_rfl
  arity := fun _ => Nat.le_of_ble_eq_true (by kernel_rfl)
  pin := fun _ => by kernel_rfl
  chk := by kernel_rfl
  loops := o_strings_Index
  run := e_strings_Index
  F := fun _ => rfl
  emb := fun _ => rfl

theorem fd_strings_Index : FDok prog (89, D_strings_Index) := fn_ok mixed (env_ok (List.forall_mem_cons.2 ⟨fd_internal_stringslite_Index, fun _ h => absurd h List.not_mem_nil⟩)) tabOK ok_strings_Index

theorem e_strings_Contains : ∀ x : D_strings_Contains.T, ((acode E_strings_Contains tt Z_strings_Contains (orcOf O_strings_Contains) C_strings_Contains (entry A_strings_Contains I_strings_Contains x)).map (keepRet tt K_strings_Contains)).ev = ((T_strings_Contains x.1.1 x.1.2.1).map fun r => some ((((r, ()), ())) : K_strings_Contains.T)).ev := fun _ => by kernel_rfl

theorem o_strings_Contains : LoopsOK E_strings_Contains tt Z_strings_Contains O_strings_Contains C_strings_Contains := by
  have h : loopsOf C_strings_Contains = [] := by kernel_rfl
  unfold LoopsOK
  rw [h]
  exact fun _ h => absurd h List.not_mem_nil

theorem ok_strings_Contains : FnOK prog E_strings_Contains tt 68 D_strings_Contains K_strings_Contains Z_strings_Contains O_strings_Contains f68 C_strings_Contains (fun x => T_strings_Contains x.1.1 x.1.2.1) (fun r => ((r, ()), ())) where
  at_ := func68
  name := by kernel_rfl
  body := by kernel_rfl
  res := by kernel_rfl
  ok := by kernel_rfl
  arity := fun _ => Nat.le_of_ble_eq_true (by kernel_rfl)
  pin := fun _ => by kernel_rfl
  chk := by kernel_rfl
  loops := o_strings_Contains
  run := e_strings_Contains
  F := fun _ => rfl
  emb := fun _ => rfl

theorem fd_strings_Contains : FDok prog (68, D_strings_Contains) := fn_ok mixed (env_ok (List.forall_mem_cons.2 ⟨fd_strings_Index, fun _ h => absurd h List.not_mem_nil⟩)) tabOK ok_strings_Contains

theorem e_im_IsValidRecord : ∀ x : D_im_IsValidRecord.T, ((acode E_im_IsValidRecord tt Z_im_IsValidRecord (orcOf O_im_IsValidRecord) C_im_IsValidRecord (entry A_im_IsValidRecord I_im_IsValidRecord x)).map (keepRet tt K_im_IsValidRecord)).ev = ((T_im_IsValidRecord x.1.1.1 x.1.1.2.1).map fun r => some ((((r, ()), ())) : K_im_IsValidRecord.T)).ev := fun _ => by kernel_rfl

theorem o_im_IsValidRecord : LoopsOK E_im_IsValidRecord tt Z_im_IsValidRecord O_im_IsValidRecord C_im_IsValidRecord := by
  have h : loopsOf C_im_IsValidRecord = [] := by kernel_rfl
  unfold LoopsOK
  rw [h]
  exact fun _ h => absurd h List.not_mem_nil

theorem ok_im_IsValidRecord : FnOK prog E_im_IsValidRecord tt 41 D_im_IsValidRecord K_im_IsValidRecord Z_im_IsValidRecord O_im_IsValidRecord f41 C_im_IsValidRecord (fun x => T_im_IsValidRecord x.1.1.1 x.1.1.2.1) (fun r => ((r, ()), ())) where
  at_ := func41
  name := by kernel_rfl
  body := by kernel_rfl
  res := by kernel_rfl
  ok := by kernel_rfl
  arity := fun _ => Nat.le_of_ble_eq_true (by kernel_rfl)
  pin := fun _ => by kernel_rfl
  chk := by kernel_rfl
  loops := o_im_IsValidRecord
  run := e_im_IsValidRecord
  F := fun _ => rfl
  emb := fun _ => rfl

theorem fd_im_IsValidRecord : FDok prog (41, D_im_IsValidRecord) := fn_ok mixed (env_ok (List.forall_mem_cons.2 ⟨fd_im_isPlain, List.forall_mem_cons.2 ⟨fd_strings_Contains, fun _ h => absurd h List.not_mem_nil⟩⟩)) tabOK ok_im_IsValidRecord

theorem fd_strconv_Itoa : FDok prog (56, D_strconv_Itoa) := hand_itoa

theorem e_im_checksum : ∀ x : D_im_checksum.T, ((acode E_im_checksum tt Z_im_checksum (orcOf O_im_checksum) C_im_checksum (entry A_im_checksum I_im_checksum x)).map (keepRet tt K_im_checksum)).ev = ((T_im_checksum x.1.1).map fun r => some ((((r, ()), ())) : K_im_checksum.T)).ev := fun _ => by kernel_rfl

noncomputable def B_im_checksum_0 : Code := ((loopsOf C_im_checksum).find? fun p => Nat.beq p.1 0).elim .skip (·.2)
theorem l_im_checksum_0 : (DL_im_checksum_0).OK E_im_checksum tt Z_im_checksum (orcOf O_im_checksum) B_im_checksum_0 where
  ok := by kernel_rfl
  oke := by kernel_rfl
  okr := by kernel_rfl
  eta := fun _ => rfl
  step := fun _ _ => by kernel_rfl

theorem o_im_checksum : LoopsOK E_im_checksum tt Z_im_checksum O_im_checksum C_im_checksum := by
  have h : loopsOf C_im_checksum = [(0, B_im_checksum_0)] := by kernel_rfl
  unfold LoopsOK
  rw [h]
  exact List.forall_mem_cons.2 ⟨fun d h => (by have e : some (DL_im_checksum_0) = some d := h; cases e; exact l_im_checksum_0), fun _ h => absurd h List.not_mem_nil⟩

theorem ok_im_checksum : FnOK prog E_im_checksum tt 80 D_im_checksum K_im_checksum Z_im_checksum O_im_checksum f80 C_im_checksum (fun x => T_im_checksum x.1.1) (fun r => ((r, ()), ())) where
  at_ := func80
  name := by kernel_rfl
  body := by kernel_rfl
  res := by kernel_rfl
  ok := by kernel_rfl
  arity := fun _ => Nat.le_of_ble_eq_true (by kernel_rfl)
  pin := fun _ => by kernel_rfl
  chk := by kernel_rfl
  loops := o_im_checksum
  run := e_im_checksum
  F := fun _ => rfl
  emb := fun _ => rfl

theorem fd_im_checksum : FDok prog (80, D_im_checksum) := fn_ok mixed (env_ok (fun _ h => absurd h List.not_mem_nil)) tabOK ok_im_checksum

theorem e_im_AppendChecksum : ∀ x : D_im_AppendChecksum.T, ((acode E_im_AppendChecksum tt Z_im_AppendChecksum (orcOf O_im_AppendChecksum) C_im_AppendChecksum (entry A_im_AppendChecksum I_im_AppendChecksum x)).map (keepRet tt K_im_AppendChecksum)).ev = ((T_im_AppendChecksum x.1.1).map fun r => some ((((r.1, (r.2, ())), ())) : K_im_AppendChecksum.T)).ev := fun _ => by kernel_rfl

theorem o_im_AppendChecksum : LoopsOK E_im_AppendChecksum tt Z_im_AppendChecksum O_im_AppendChecksum C_im_AppendChecksum := by
  have h : loopsOf C_im_AppendChecksum = [] := by kernel_rfl
  unfold LoopsOK
  rw [h]
  exact fun _ h => absurd h List.not_mem_nil

theorem ok_im_AppendChecksum : FnOK prog E_im_AppendChecksum tt 55 D_im_AppendChecksum K_im_AppendChecksum Z_im_AppendChecksum O_im_AppendChecksum f55 C_im_AppendChecksum (fun x => T_im_AppendChecksum x.1.1) (fun r => ((r.1, (r.2, ())), ())) where
  at_ := func55
  name := by kernel_rfl
  body := by kernel_rfl
  res := by kernel_rfl
  ok := by kernel_rfl
  arity := fun _ => Nat.le_of_ble_eq_true (by kernel_rfl)
  pin := fun _ => by kernel_rfl
  chk := by kernel_rfl
  loops := o_im_AppendChecksum
  run := e_im_AppendChecksum
  F := fun _ => rfl
  emb := fun _ => rfl

theorem fd_im_AppendChecksum : FDok prog (55, D_im_AppendChecksum) := fn_ok mixed (env_ok (List.forall_mem_cons.2 ⟨fd_strings_Contains, List.forall_mem_cons.2 ⟨fd_im_checksum, List.forall_mem_cons.2 ⟨fd_strconv_Itoa, fun _ h => absurd h List.not_mem_nil⟩⟩⟩)) tabOK ok_im_AppendChecksum

theorem e_im_EncodeRecord : ∀ x : D_im_EncodeRecord.T, ((acode E_im_EncodeRecord tt Z_im_EncodeRecord (orcOf O_im_EncodeRecord) C_im_EncodeRecord (entry A_im_EncodeRecord I_im_EncodeRecord x)).map (keepRet tt K_im_EncodeRecord)).ev = ((T_im_EncodeRecord x.1.1 x.1.2.1.1 x.1.2.1.2.1).map fun r => some ((((r.1, (r.2, ())), ())) : K_im_EncodeRecord.T)).ev := fun _ => by kernel_rfl

theorem o_im_EncodeRecord : LoopsOK E_im_EncodeRecord tt Z_im_EncodeRecord O_im_EncodeRecord C_im_EncodeRecord := by
  have h : loopsOf C_im_EncodeRecord = [] := by kernel_rfl
  unfold LoopsOK
  rw [h]
  exact fun _ h => absurd h List.not_mem_nil

theorem ok_im_EncodeRecord : FnOK prog E_im_EncodeRecord tt 16 D_im_EncodeRecord K_im_EncodeRecord Z_im_EncodeRecord O_im_EncodeRecord f16 C_im_EncodeRecord (fun x => T_im_EncodeRecord x.1.1 x.1.2.1.1 x.1.2.1.2.1) (fun r => ((r.1, (r.2, ())), ())) where
  at_ := func16
  name := by kernel_rfl
  body := by kernel_rfl
  res := by kernel_rfl
  ok := by kernel_rfl
  arity := fun _ => Nat.le_of_ble_eq_true (by kernel_rfl)
  pin := fun _ => by kernel_rfl
  chk := by kernel_rfl
  loops := o_im_EncodeRecord
  run := e_im_EncodeRecord
  F := fun _ => rfl
  emb := fun _ => rfl

theorem fd_im_EncodeRecord : FDok prog (16, D_im_EncodeRecord) := fn_ok mixed (env_ok (List.forall_mem_cons.2 ⟨fd_im_between, List.forall_mem_cons.2 ⟨fd_im_IsValidRecord, List.forall_mem_cons.2 ⟨fd_strconv_Itoa, List.forall_mem_cons.2 ⟨fd_im_AppendChecksum, fun _ h => absurd h List.not_mem_nil⟩⟩⟩⟩)) tabOK ok_im_EncodeRecord

theorem e_lw_FnExactEncodeRecord : ∀ x : D_lw_FnExactEncodeRecord.T, ((acode E_lw_FnExactEncodeRecord tt Z_lw_FnExactEncodeRecord (orcOf O_lw_FnExactEncodeRecord) C_lw_FnExactEncodeRecord (entry A_lw_FnExactEncodeRecord I_lw_FnExactEncodeRecord x)).map (keepRet tt K_lw_FnExactEncodeRecord)).ev = ((T_lw_FnExactEncodeRecord x.1.1 x.1.2.1.1 x.1.2.1.2.1).map fun r => some ((((r, ()), ())) : K_lw_FnExactEncodeRecord.T)).ev := fun _ => by kernel_rfl

theorem o_lw_FnExactEncodeRecord : LoopsOK E_lw_FnExactEncodeRecord tt Z_lw_FnExactEncodeRecord O_lw_FnExactEncodeRecord C_lw_FnExactEncodeRecord := by
  have h : loopsOf C_lw_FnExactEncodeRecord = [] := by kernel_rfl
  unfold LoopsOK
  rw [h]
  exact fun _ h => absurd h List.not_mem_nil

theorem ok_lw_FnExactEncodeRecord : FnOK prog E_lw_FnExactEncodeRecord tt 3 D_lw_FnExactEncodeRecord K_lw_FnExactEncodeRecord Z_lw_FnExactEncodeRecord O_lw_FnExactEncodeRecord f3 C_lw_FnExactEncodeRecord (fun x => T_lw_FnExactEncodeRecord x.1.1 x.1.2.1.1 x.1.2.1.2.1) (fun r => ((r, ()), ())) where
  at_ := func3
  name := by kernel_rfl
  body := by kernel_rfl
  res := by kernel_rfl
  ok := by kernel_rfl
  arity := fun _ => Nat.le_of_ble_eq_true (by kernel_rfl)
  pin := fun _ => by kernel_rfl
  chk := by kernel_rfl
  loops := o_lw_FnExactEncodeRecord
  run := e_lw_FnExactEncodeRecord
  F := fun _ => rfl
  emb := fun _ => rfl

theorem fd_lw_FnExactEncodeRecord : FDok prog (3, D_lw_FnExactEncodeRecord) := fn_ok mixed (env_ok (List.forall_mem_cons.2 ⟨fd_lw_szLogRecord, List.forall_mem_cons.2 ⟨fd_lw_toLogRecord, List.forall_mem_cons.2 ⟨fd_sp_EncodeRecord, List.forall_mem_cons.2 ⟨fd_im_EncodeRecord, fun _ h => absurd h List.not_mem_nil⟩⟩⟩⟩)) tabOK ok_lw_FnExactEncodeRecord

theorem e_sp_l1Split : ∀ x : D_sp_l1Split.T, ((acode E_sp_l1Split tt Z_sp_l1Split (orcOf O_sp_l1Split) C_sp_l1Split (entry A_sp_l1Split I_sp_l1Split x)).map (keepRet tt K_sp_l1Split)).ev = ((T_sp_l1Split x.1.1 x.1.2.1).map fun r => some (((((), ()), (r, ()))) : K_sp_l1Split.T)).ev := fun _ => by kernel_rfl

noncomputable def B_sp_l1Split_0 : Code := ((loopsOf C_sp_l1Split).find? fun p => Nat.beq p.1 0).elim .skip (·.2)
theorem l_sp_l1Split_0 : (DL_sp_l1Split_0).OK E_sp_l1Split tt Z_sp_l1Split (orcOf O_sp_l1Split) B_sp_l1Split_0 where
  ok := by kernel_rfl
  oke := by kernel_rfl
  okr := by kernel_rfl
  eta := fun _ => rfl
  step := fun _ _ => by kernel_rfl

theorem o_sp_l1Split : LoopsOK E_sp_l1Split tt Z_sp_l1Split O_sp_l1Split C_sp_l1Split := by
  have h : loopsOf C_sp_l1Split = [(0, B_sp_l1Split_0)] := by kernel_rfl
  unfold LoopsOK
  rw [h]
  exact List.forall_mem_cons.2 ⟨fun d h => (by have e : some (DL_sp_l1Split_0) = some d := h; cases e; exact l_sp_l1Split_0), fun _ h => absurd h List.not_mem_nil⟩

theorem ok_sp_l1Split : FnOK prog E_sp_l1Split tt 82 D_sp_l1Split K_sp_l1Split Z_sp_l1Split O_sp_l1Split f82 C_sp_l1Split (fun x => T_sp_l1Split x.1.1 x.1.2.1) (fun r => (((), ()), (r, ()))) where
  at_ := func82
  name := by kernel_rfl
  body := by kernel_rfl
  res := by kernel_rfl
  ok := by kernel_rfl
  arity := fun _ => Nat.le_of_ble_eq_true (by kernel_rfl)
  pin := fun _ => by kernel_rfl
  chk := by kernel_rfl
  loops := o_sp_l1Split
  run := e_sp_l1Split
  F := fun _ => rfl
  emb := fun _ => rfl

theorem fd_sp_l1Split : FDok prog (82, D_sp_l1Split) := fn_ok mixed (env_ok (fun _ h => absurd h List.not_mem_nil)) tabOK ok_sp_l1Split

theorem e_sp_l12Decode : ∀ x : D_sp_l12Decode.T, ((acode E_sp_l12Decode tt Z_sp_l12Decode (orcOf O_sp_l12Decode) C_sp_l12Decode (entry A_sp_l12Decode I_sp_l12Decode x)).map (keepRet tt K_sp_l12Decode)).ev = ((T_sp_l12Decode x.1.1 x.1.2.1).map fun r => some (((((r.1, (r.2.1, ())), (r.2.2, ())), ())) : K_sp_l12Decode.T)).ev := fun _ => by kernel_rfl

theorem o_sp_l12Decode : LoopsOK E_sp_l12Decode tt Z_sp_l12Decode O_sp_l12Decode C_sp_l12Decode := by
  have h : loopsOf C_sp_l12Decode = [] := by kernel_rfl
  unfold LoopsOK
  rw [h]
  exact fun _ h => absurd h List.not_mem_nil

theorem ok_sp_l12Decode : FnOK prog E_sp_l12Decode tt 83 D_sp_l12Decode K_sp_l12Decode Z_sp_l12Decode O_sp_l12Decode f83 C_sp_l12Decode (fun x => T_sp_l12Decode x.1.1 x.1.2.1) (fun r => (((r.1, (r.2.1, ())), (r.2.2, ())), ())) where
  at_ := func83
  name := by kernel_rfl
  body := by kernel_rfl
  res := by kernel_rfl
  ok := by kernel_rfl
  arity := fun _ => Nat.le_of_ble_eq_true (by kernel_rfl)
  pin := fun _ => by kernel_rfl
  chk := by kernel_rfl
  loops := o_sp_l12Decode
  run := e_sp_l12Decode
  F := fun _ => rfl
  emb := fun _ => rfl

theorem fd_sp_l12Decode : FDok prog (83, D_sp_l12Decode) := fn_ok mixed (env_ok (List.forall_mem_cons.2 ⟨fd_sp_l1Num 1000000, List.forall_mem_cons.2 ⟨fd_sp_l1Split, List.forall_mem_cons.2 ⟨fd_sp_l12Record, List.forall_mem_cons.2 ⟨fd_sp_l12Line, fun _ h => absurd h List.not_mem_nil⟩⟩⟩⟩)) tabOK ok_sp_l12Decode

theorem e_sp_l12Open : ∀ x : D_sp_l12Open.T, ((acode E_sp_l12Open tt Z_sp_l12Open (orcOf O_sp_l12Open) C_sp_l12Open (entry A_sp_l12Open I_sp_l12Open x)).map (keepRet tt K_sp_l12Open)).ev = ((T_sp_l12Open x.1.1).map fun r => some (((((), (r.1, ())), (r.2, ()))) : K_sp_l12Open.T)).ev := fun _ => by kernel_rfl

noncomputable def B_sp_l12Open_0 : Code := ((loopsOf C_sp_l12Open).find? fun p => Nat.beq p.1 0).elim .skip (·.2)
theorem l_sp_l12Open_0 : (DL_sp_l12Open_0).OK E_sp_l12Open tt Z_sp_l12Open (orcOf O_sp_l12Open) B_sp_l12Open_0 where
  ok := by kernel_rfl
  oke := by kernel_rfl
  okr := by kernel_rfl
  eta := fun _ => rfl
  step := fun _ _ => by kernel_rfl

theorem o_sp_l12Open : LoopsOK E_sp_l12Open tt Z_sp_l12Open O_sp_l12Open C_sp_l12Open := by
  have h : loopsOf C_sp_l12Open = [(0, B_sp_l12Open_0)] := by kernel_rfl
  unfold LoopsOK
  rw [h]
  exact List.forall_mem_cons.2 ⟨fun d h => (by have e : some (DL_sp_l12Open_0) = some d := h; cases e; exact l_sp_l12Open_0), fun _ h => absurd h List.not_mem_nil⟩

theorem ok_sp_l12Open : FnOK prog E_sp_l12Open tt 57 D_sp_l12Open K_sp_l12Open Z_sp_l12Open O_sp_l12Open f57 C_sp_l12Open (fun x => T_sp_l12Open x.1.1) (fun r => (((), (r.1, ())), (r.2, ()))) where
  at_ := func57
  name := by kernel_rfl
  body := by kernel_rfl
  res := by kernel_rfl
  ok := by kernel_rfl
  arity := fun _ => Nat.le_of_ble_eq_true (by kernel_rfl)
  pin := fun _ => by kernel_rfl
  chk := by kernel_rfl
  loops := o_sp_l12Open
  run := e_sp_l12Open
  F := fun _ => rfl
  emb := fun _ => rfl

theorem fd_sp_l12Open : FDok prog (57, D_sp_l12Open) := fn_ok mixed (env_ok (List.forall_mem_cons.2 ⟨fd_sp_l1Split, List.forall_mem_cons.2 ⟨fd_sp_l12Decode, fun _ h => absurd h List.not_mem_nil⟩⟩)) tabOK ok_sp_l12Open

theorem e_sp_RecoverLog : ∀ x : D_sp_RecoverLog.T, ((acode E_sp_RecoverLog tt Z_sp_RecoverLog (orcOf O_sp_RecoverLog) C_sp_RecoverLog (entry A_sp_RecoverLog I_sp_RecoverLog x)).map (keepRet tt K_sp_RecoverLog)).ev = ((T_sp_RecoverLog x.1.1).map fun r => some (((((r.1, (r.2.1, (r.2.2.1, ()))), (r.2.2.2.1, (r.2.2.2.2, ()))), ())) : K_sp_RecoverLog.T)).ev := fun _ => by kernel_rfl

theorem o_sp_RecoverLog : LoopsOK E_sp_RecoverLog tt Z_sp_RecoverLog O_sp_RecoverLog C_sp_RecoverLog := by
  have h : loopsOf C_sp_RecoverLog = [] := by kernel_rfl
  unfold LoopsOK
  rw [h]
  exact fun _ h => absurd h List.not_mem_nil

theorem ok_sp_RecoverLog : FnOK prog E_sp_RecoverLog tt 17 D_sp_RecoverLog K_sp_RecoverLog Z_sp_RecoverLog O_sp_RecoverLog f17 C_sp_RecoverLog (fun x => T_sp_RecoverLog x.1.1) (fun r => (((r.1, (r.2.1, (r.2.2.1, ()))), (r.2.2.2.1, (r.2.2.2.2, ()))), ())) where
  at_ := func17
  name := by kernel_rfl
  body := by kernel_rfl
  res := by kernel_rfl
  ok := by kernel_rfl
  arity := fun _ => Nat.le_of_ble_eq_true (by kernel_rfl)
  pin := fun _ => by kernel_rfl
  chk := by kernel_rfl
  loops := o_sp_RecoverLog
  run := e_sp_RecoverLog
  F := fun _ => rfl
  emb := fun _ => rfl

theorem fd_sp_RecoverLog : FDok prog (17, D_sp_RecoverLog) := fn_ok mixed (env_ok (List.forall_mem_cons.2 ⟨fd_sp_l12Open, fun _ h => absurd h List.not_mem_nil⟩)) tabOK ok_sp_RecoverLog

theorem e_strings_IndexByte : ∀ x : D_strings_IndexByte.T, ((acode E_strings_IndexByte tt Z_strings_IndexByte (orcOf O_strings_IndexByte) C_strings_IndexByte (entry A_strings_IndexByte I_strings_IndexByte x)).map (keepRet tt K_strings_IndexByte)).ev = ((T_strings_IndexByte x.1.1 x.1.2.1).map fun r => some ((((r, ()), ())) : K_strings_IndexByte.T)).ev := fun _ => by kernel_rfl

theorem o_strings_IndexByte : LoopsOK E_strings_IndexByte tt Z_strings_IndexByte O_strings_IndexByte C_strings_IndexByte := by
  have h : loopsOf C_strings_IndexByte = [] := by kernel_rfl
  unfold LoopsOK
  rw [h]
  exact fun _ h => absurd h List.not_mem_nil

theorem ok_strings_IndexByte : FnOK prog E_strings_IndexByte tt 84 D_strings_IndexByte K_strings_IndexByte Z_strings_IndexByte O_strings_IndexByte f84 C_strings_IndexByte (fun x => T_strings_IndexByte x.1.1 x.1.2.1) (fun r => ((r, ()), ())) where
  at_ := func84
  name := by kernel_rfl
  body := by kernel_rfl
  res := by kernel_rfl
  ok := by kernel_rfl
  arity := fun _ => Nat.le_of_ble_eq_true (by kernel_rfl)
  pin := fun _ => by kernel_rfl
  chk := by kernel_rfl
  loops := o_strings_IndexByte
  run := e_strings_IndexByte
  F := fun _ => rfl
  emb := fun _ => rfl

theorem fd_strings_IndexByte : FDok prog (84, D_strings_IndexByte) := fn_ok mixed (env_ok (List.forall_mem_cons.2 ⟨fd_internal_stringslite_IndexByte, fun _ h => absurd h List.not_mem_nil⟩)) tabOK ok_strings_IndexByte

theorem e_internal_stringslite_Cut : ∀ x : D_internal_stringslite_Cut.T, ((acode E_internal_stringslite_Cut tt Z_internal_stringslite_Cut (orcOf O_internal_stringslite_Cut) C_internal_stringslite_Cut (entry A_internal_stringslite_Cut I_internal_stringslite_Cut x)).map (keepRet tt K_internal_stringslite_Cut)).ev = ((T_internal_stringslite_Cut x.1.1 x.1.2.1).map fun r => some ((((r.1, (r.2.1, (r.2.2, ()))), ())) : K_internal_stringslite_Cut.T)).ev := fun _ => by kernel_rfl

theorem o_internal_stringslite_Cut : LoopsOK E_internal_stringslite_Cut tt Z_internal_stringslite_Cut O_internal_stringslite_Cut C_internal_stringslite_Cut := by
  have h : loopsOf C_internal_stringslite_Cut = [] := by kernel_rfl
  unfold LoopsOK
  rw [h]
  exact fun _ h => absurd h List.not_mem_nil

theorem ok_internal_stringslite_Cut : FnOK prog E_internal_stringslite_Cut tt 103 D_internal_stringslite_Cut K_internal_stringslite_Cut Z_internal_stringslite_Cut O_internal_stringslite_Cut f103 C_internal_stringslite_Cut (fun x => T_internal_stringslite_Cut x.1.1 x.1.2.1) (fun r => ((r.1, (r.2.1, (r.2.2, ()))), ())) where
  at_ := func103
  name := by kernel_rfl
  body := by kernel_rfl
  res := by kernel_rfl
  ok := by kernel_rfl
  arity := fun _ => Nat.le_of_ble_eq_true (by kernel_rfl)
  pin := fun _ => by kernel_rfl
  chk := by kernel_rfl
  loops := o_internal_stringslite_Cut
  run := e_internal_stringslite_Cut
  F := fun _ => rfl
  emb := fun _ => rfl

theorem fd_internal_stringslite_Cut : FDok prog (103, D_internal_stringslite_Cut) := fn_ok mixed (env_ok (List.forall_mem_cons.2 ⟨fd_internal_stringslite_Index, fun _ h => absurd h List.not_mem_nil⟩)) tabOK ok_internal_stringslite_Cut

theorem e_strings_Cut : ∀ x : D_strings_Cut.T, ((acode E_strings_Cut tt Z_strings_Cut (orcOf O_strings_Cut) C_strings_Cut (entry A_strings_Cut I_strings_Cut x)).map (keepRet tt K_strings_Cut)).ev = ((T_strings_Cut x.1.1 x.1.2.1).map fun r => some ((((r.1, (r.2.1, (r.2.2, ()))), ())) : K_strings_Cut.T)).ev := fun _ => by kernel_rfl

theorem o_strings_Cut : LoopsOK E_strings_Cut tt Z_strings_Cut O_strings_Cut C_strings_Cut := by
  have h : loopsOf C_strings_Cut = [] := by kernel_rfl
  unfold LoopsOK
  rw [h]
  exact fun _ h => absurd h List.not_mem_nil

theorem ok_strings_Cut : FnOK prog E_strings_Cut tt 86 D_strings_Cut K_strings_Cut Z_strings_Cut O_strings_Cut f86 C_strings_Cut (fun x => T_strings_Cut x.1.1 x.1.2.1) (fun r => ((r.1, (r.2.1, (r.2.2, ()))), ())) where
  at_ := func86
  name := by kernel_rfl
  body := by kernel_rfl
  res := by kernel_rfl
  ok := by kernel_rfl
  arity := fun _ => Nat.le_of_ble_eq_true (by kernel_rfl)
  pin := fun _ => by kernel_rfl
  chk := by kernel_rfl
  loops := o_strings_Cut
  run := e_strings_Cut
  F := fun _ => rfl
  emb := fun _ => rfl

theorem fd_strings_Cut : FDok prog (86, D_strings_Cut) := fn_ok mixed (env_ok (List.forall_mem_cons.2 ⟨fd_internal_stringslite_Cut, fun _ h => absurd h List.not_mem_nil⟩)) tabOK ok_strings_Cut

theorem e_im_VerifyChecksum : ∀ x : D_im_VerifyChecksum.T, ((acode E_im_VerifyChecksum tt Z_im_VerifyChecksum (orcOf O_im_VerifyChecksum) C_im_VerifyChecksum (entry A_im_VerifyChecksum I_im_VerifyChecksum x)).map (keepRet tt K_im_VerifyChecksum)).ev = ((T_im_VerifyChecksum x.1.1).map fun r => some ((((r.1, (r.2, ())), ())) : K_im_VerifyChecksum.T)).ev := fun _ => by kernel_rfl

theorem o_im_VerifyChecksum : LoopsOK E_im_VerifyChecksum tt Z_im_VerifyChecksum O_im_VerifyChecksum C_im_VerifyChecksum := by
  have h : loopsOf C_im_VerifyChecksum = [] := by kernel_rfl
  unfold LoopsOK
  rw [h]
  exact fun _ h => absurd h List.not_mem_nil

theorem ok_im_VerifyChecksum : FnOK prog E_im_VerifyChecksum tt 85 D_im_VerifyChecksum K_im_VerifyChecksum Z_im_VerifyChecksum O_im_VerifyChecksum f85 C_im_VerifyChecksum (fun x => T_im_VerifyChecksum x.1.1) (fun r => ((r.1, (r.2, ())), ())) where
  at_ := func85
  name := by kernel_rfl
  body := by kernel_rfl
  res := by kernel_rfl
  ok := by kernel_rfl
  arity := fun _ => Nat.le_of_ble_eq_true (by kernel_rfl)
  pin := fun _ => by kernel_rfl
  chk := by kernel_rfl
  loops := o_im_VerifyChecksum
  run := e_im_VerifyChecksum
  F := fun _ => rfl
  emb := fun _ => rfl

theorem fd_im_VerifyChecksum : FDok prog (85, D_im_VerifyChecksum) := fn_ok mixed (env_ok (List.forall_mem_cons.2 ⟨fd_strings_Cut, List.forall_mem_cons.2 ⟨fd_im_AppendChecksum, fun _ h => absurd h List.not_mem_nil⟩⟩)) tabOK ok_im_VerifyChecksum

theorem e_im_readRecords : ∀ x : D_im_readRecords.T, ((acode E_im_readRecords tt Z_im_readRecords (orcOf O_im_readRecords) C_im_readRecords (entry A_im_readRecords I_im_readRecords x)).map (keepRet tt K_im_readRecords)).ev = ((T_im_readRecords x.1.1).map fun r => some (((((), (r.1, ())), (r.2, ()))) : K_im_readRecords.T)).ev := fun _ => by kernel_rfl

noncomputable def B_im_readRecords_0 : Code := ((loopsOf C_im_readRecords).find? fun p => Nat.beq p.1 0).elim .skip (·.2)
theorem l_im_readRecords_0 : (DL_im_readRecords_0).OK E_im_readRecords tt Z_im_readRecords (orcOf O_im_readRecords) B_im_readRecords_0 where
  ok := by kernel_rfl
  oke := by kernel_rfl
  okr := by kernel_rfl
  eta := fun _ => rfl
  step := fun _ _ => by kernel_rfl

theorem o_im_readRecords : LoopsOK E_im_readRecords tt Z_im_readRecords O_im_readRecords C_im_readRecords := by
  have h : loopsOf C_im_readRecords = [(0, B_im_readRecords_0)] := by kernel_rfl
  unfold LoopsOK
  rw [h]
  exact List.forall_mem_cons.2 ⟨fun d h => (by have e : some (DL_im_readRecords_0) = some d := h; cases e; exact l_im_readRecords_0), fun _ h => absurd h List.not_mem_nil⟩

theorem ok_im_readRecords : FnOK prog E_im_readRecords tt 58 D_im_readRecords K_im_readRecords Z_im_readRecords O_im_readRecords f58 C_im_readRecords (fun x => T_im_readRecords x.1.1) (fun r => (((), (r.1, ())), (r.2, ()))) where
  at_ := func58
  name := by kernel_rfl
  body := by kernel_rfl
  res := by kernel_rfl
  ok := by kernel_rfl
  arity := fun _ => Nat.le_of_ble_eq_true (by kernel_rfl)
  pin := fun _ => by kernel_rfl
  chk := by kernel_rfl
  loops := o_im_readRecords
  run := e_im_readRecords
  F := fun _ => rfl
  emb := fun _ => rfl

theorem fd_im_readRecords : FDok prog (58, D_im_readRecords) := fn_ok mixed (env_ok (List.forall_mem_cons.2 ⟨fd_strings_IndexByte, List.forall_mem_cons.2 ⟨fd_im_VerifyChecksum, List.forall_mem_cons.2 ⟨fd_strings_Cut, List.forall_mem_cons.2 ⟨fd_im_EncodeRecord, fun _ h => absurd h List.not_mem_nil⟩⟩⟩⟩)) tabOK ok_im_readRecords

theorem e_im_RecoverLog : ∀ x : D_im_RecoverLog.T, ((acode E_im_RecoverLog tt Z_im_RecoverLog (orcOf O_im_RecoverLog) C_im_RecoverLog (entry A_im_RecoverLog I_im_RecoverLog x)).map (keepRet tt K_im_RecoverLog)).ev = ((T_im_RecoverLog x.1.1).map fun r => some (((((r.1, (r.2.1, (r.2.2.1, ()))), (r.2.2.2.1, (r.2.2.2.2, ()))), ())) : K_im_RecoverLog.T)).ev := fun _ => by kernel_rfl

theorem o_im_RecoverLog : LoopsOK E_im_RecoverLog tt Z_im_RecoverLog O_im_RecoverLog C_im_RecoverLog := by
  have h : loopsOf C_im_RecoverLog = [] := by kernel_rfl
  unfold LoopsOK
  rw [h]
  exact fun _ h => absurd h List.not_mem_nil

theorem ok_im_RecoverLog : FnOK prog E_im_RecoverLog tt 18 D_im_RecoverLog K_im_RecoverLog Z_im_RecoverLog O_im_RecoverLog f18 C_im_RecoverLog (fun x => T_im_RecoverLog x.1.1) (fun r => (((r.1, (r.2.1, (r.2.2.1, ()))), (r.2.2.2.1, (r.2.2.2.2, ()))), ())) where
  at_ := func18
  name := by kernel_rfl
  body := by kernel_rfl
  res := by kernel_rfl
  ok := by kernel_rfl
  arity := fun _ => Nat.le_of_ble_eq_true (by kernel_rfl)
  pin := fun _ => by kernel_rfl
  chk := by kernel_rfl
  loops := o_im_RecoverLog
  run := e_im_RecoverLog
  F := fun _ => rfl
  emb := fun _ => rfl

theorem fd_im_RecoverLog : FDok prog (18, D_im_RecoverLog) := fn_ok mixed (env_ok (List.forall_mem_cons.2 ⟨fd_im_readRecords, fun _ h => absurd h List.not_mem_nil⟩)) tabOK ok_im_RecoverLog

theorem e_lw_eqLog : ∀ x : D_lw_eqLog.T, ((acode E_lw_eqLog tt Z_lw_eqLog (orcOf O_lw_eqLog) C_lw_eqLog (entry A_lw_eqLog I_lw_eqLog x)).map (keepRet tt K_lw_eqLog)).ev = ((T_lw_eqLog x.1.1.1 x.1.1.2.1 x.1.1.2.2.1 x.1.2.1.1 x.1.2.1.2.1 x.1.2.1.2.2.1).map fun r => some ((((r, ()), ())) : K_lw_eqLog.T)).ev := fun _ => by kernel_rfl

theorem o_lw_eqLog : LoopsOK E_lw_eqLog tt Z_lw_eqLog O_lw_eqLog C_lw_eqLog := by
  have h : loopsOf C_lw_eqLog = [] := by kernel_rfl
  unfold LoopsOK
  rw [h]
  exact fun _ h => absurd h List.not_mem_nil

theorem ok_lw_eqLog : FnOK prog E_lw_eqLog tt 19 D_lw_eqLog K_lw_eqLog Z_lw_eqLog O_lw_eqLog f19 C_lw_eqLog (fun x => T_lw_eqLog x.1.1.1 x.1.1.2.1 x.1.1.2.2.1 x.1.2.1.1 x.1.2.1.2.1 x.1.2.1.2.2.1) (fun r => ((r, ()), ())) where
  at_ := func19
  name := by kernel_rfl
  body := by kernel_rfl
  res := by kernel_rfl
  ok := by kernel_rfl
  arity := fun _ => Nat.le_of_ble_eq_true (by kernel_rfl)
  pin := fun _ => by kernel_rfl
  chk := by kernel_rfl
  loops := o_lw_eqLog
  run := e_lw_eqLog
  F := fun _ => rfl
  emb := fun _ => rfl

theorem fd_lw_eqLog : FDok prog (19, D_lw_eqLog) := fn_ok mixed (env_ok (fun _ h => absurd h List.not_mem_nil)) tabOK ok_lw_eqLog

theorem e_lw_FnExactRecoverLog : ∀ x : D_lw_FnExactRecoverLog.T, ((acode E_lw_FnExactRecoverLog tt Z_lw_FnExactRecoverLog (orcOf O_lw_FnExactRecoverLog) C_lw_FnExactRecoverLog (entry A_lw_FnExactRecoverLog I_lw_FnExactRecoverLog x)).map (keepRet tt K_lw_FnExactRecoverLog)).ev = ((T_lw_FnExactRecoverLog x.1.1).map fun r => some ((((r, ()), ())) : K_lw_FnExactRecoverLog.T)).ev := fun _ => by kernel_rfl

theorem o_lw_FnExactRecoverLog : LoopsOK E_lw_FnExactRecoverLog tt Z_lw_FnExactRecoverLog O_lw_FnExactRecoverLog C_lw_FnExactRecoverLog := by
  have h : loopsOf C_lw_FnExactRecoverLog = [] := by kernel_rfl
  unfold LoopsOK
  rw [h]
  exact fun _ h => absurd h List.not_mem_nil

theorem ok_lw_FnExactRecoverLog : FnOK prog E_lw_FnExactRecoverLog tt 4 D_lw_FnExactRecoverLog K_lw_FnExactRecoverLog Z_lw_FnExactRecoverLog O_lw_FnExactRecoverLog f4 C_lw_FnExactRecoverLog (fun x => T_lw_FnExactRecoverLog x.1.1) (fun r => ((r, ()), ())) where
  at_ := func4
  name := by kernel_rfl
  body := by kernel_rfl
  res := by kernel_rfl
  ok := by kernel_rfl
  arity := fun _ => Nat.le_of_ble_eq_true (by kernel_rfl)
  pin := fun _ => by kernel_rfl
  chk := by kernel_rfl
  loops := o_lw_FnExactRecoverLog
  run := e_lw_FnExactRecoverLog
  F := fun _ => rfl
  emb := fun _ => rfl

theorem fd_lw_FnExactRecoverLog : FDok prog (4, D_lw_FnExactRecoverLog) := fn_ok mixed (env_ok (List.forall_mem_cons.2 ⟨fd_sp_RecoverLog, List.forall_mem_cons.2 ⟨fd_im_RecoverLog, List.forall_mem_cons.2 ⟨fd_lw_eqLog, fun _ h => absurd h List.not_mem_nil⟩⟩⟩)) tabOK ok_lw_FnExactRecoverLog

theorem e_lw_szLog : ∀ x : D_lw_szLog.T, ((acode E_lw_szLog tt Z_lw_szLog (orcOf O_lw_szLog) C_lw_szLog (entry A_lw_szLog I_lw_szLog x)).map (keepRet tt K_lw_szLog)).ev = ((T_lw_szLog x.1.1.1 x.1.1.2.1 x.1.1.2.2.1 x.1.2.1).map fun r => some ((((r, ()), ())) : K_lw_szLog.T)).ev := fun _ => by kernel_rfl

theorem o_lw_szLog : LoopsOK E_lw_szLog tt Z_lw_szLog O_lw_szLog C_lw_szLog := by
  have h : loopsOf C_lw_szLog = [] := by kernel_rfl
  unfold LoopsOK
  rw [h]
  exact fun _ h => absurd h List.not_mem_nil

theorem ok_lw_szLog : FnOK prog E_lw_szLog tt 20 D_lw_szLog K_lw_szLog Z_lw_szLog O_lw_szLog f20 C_lw_szLog (fun x => T_lw_szLog x.1.1.1 x.1.1.2.1 x.1.1.2.2.1 x.1.2.1) (fun r => ((r, ()), ())) where
  at_ := func20
  name := by kernel_rfl
  body := by kernel_rfl
  res := by kernel_rfl
  ok := by kernel_rfl
  arity := fun _ => Nat.le_of_ble_eq_true (by kernel_rfl)
  pin := fun _ => by kernel_rfl
  chk := by kernel_rfl
  loops := o_lw_szLog
  run := e_lw_szLog
  F := fun _ => rfl
  emb := fun _ => rfl

theorem fd_lw_szLog : FDok prog (20, D_lw_szLog) := fn_ok mixed (env_ok (fun _ h => absurd h List.not_mem_nil)) tabOK ok_lw_szLog

theorem e_lw_toLog : ∀ x : D_lw_toLog.T, ((acode E_lw_toLog tt Z_lw_toLog (orcOf O_lw_toLog) C_lw_toLog (entry A_lw_toLog I_lw_toLog x)).map (keepRet tt K_lw_toLog)).ev = ((T_lw_toLog x.1.1.1 x.1.1.2.1 x.1.1.2.2.1).map fun r => some (((((r.1, (r.2.1, (r.2.2, ()))), ()), ())) : K_lw_toLog.T)).ev := fun _ => by kernel_rfl

theorem o_lw_toLog : LoopsOK E_lw_toLog tt Z_lw_toLog O_lw_toLog C_lw_toLog := by
  have h : loopsOf C_lw_toLog = [] := by kernel_rfl
  unfold LoopsOK
  rw [h]
  exact fun _ h => absurd h List.not_mem_nil

theorem ok_lw_toLog : FnOK prog E_lw_toLog tt 22 D_lw_toLog K_lw_toLog Z_lw_toLog O_lw_toLog f22 C_lw_toLog (fun x => T_lw_toLog x.1.1.1 x.1.1.2.1 x.1.1.2.2.1) (fun r => (((r.1, (r.2.1, (r.2.2, ()))), ()), ())) where
  at_ := func22
  name := by kernel_rfl
  body := by kernel_rfl
  res := by kernel_rfl
  ok := by kernel_rfl
  arity := fun _ => Nat.le_of_ble_eq_true (by kernel_rfl)
  pin := fun _ => by kernel_rfl
  chk := by kernel_rfl
  loops := o_lw_toLog
  run := e_lw_toLog
  F := fun _ => rfl
  emb := fun _ => rfl

theorem fd_lw_toLog : FDok prog (22, D_lw_toLog) := fn_ok mixed (env_ok (fun _ h => absurd h List.not_mem_nil)) tabOK ok_lw_toLog

theorem e_sp_l12Valid : ∀ x : D_sp_l12Valid.T, ((acode E_sp_l12Valid tt Z_sp_l12Valid (orcOf O_sp_l12Valid) C_sp_l12Valid (entry A_sp_l12Valid I_sp_l12Valid x)).map (keepRet tt K_sp_l12Valid)).ev = ((T_sp_l12Valid x.1.1.1 x.1.1.2.1 x.1.1.2.2.1).map fun r => some ((((r, ()), ())) : K_sp_l12Valid.T)).ev := fun _ => by kernel_rfl

theorem o_sp_l12Valid : LoopsOK E_sp_l12Valid tt Z_sp_l12Valid O_sp_l12Valid C_sp_l12Valid := by
  have h : loopsOf C_sp_l12Valid = [] := by kernel_rfl
  unfold LoopsOK
  rw [h]
  exact fun _ h => absurd h List.not_mem_nil

theorem ok_sp_l12Valid : FnOK prog E_sp_l12Valid tt 59 D_sp_l12Valid K_sp_l12Valid Z_sp_l12Valid O_sp_l12Valid f59 C_sp_l12Valid (fun x => T_sp_l12Valid x.1.1.1 x.1.1.2.1 x.1.1.2.2.1) (fun r => ((r, ()), ())) where
  at_ := func59
  name := by kernel_rfl
  body := by kernel_rfl
  res := by kernel_rfl
  ok := by kernel_rfl
  arity := fun _ => Nat.le_of_ble_eq_true (by kernel_rfl)
  pin := fun _ => by kernel_rfl
  chk := by kernel_rfl
  loops := o_sp_l12Valid
  run := e_sp_l12Valid
  F := fun _ => rfl
  emb := fun _ => rfl

theorem fd_sp_l12Valid : FDok prog (59, D_sp_l12Valid) := fn_ok mixed (env_ok (List.forall_mem_cons.2 ⟨fd_sp_l12Open, fun _ h => absurd h List.not_mem_nil⟩)) tabOK ok_sp_l12Valid

theorem e_sp_IsValidLog : ∀ x : D_sp_IsValidLog.T, ((acode E_sp_IsValidLog tt Z_sp_IsValidLog (orcOf O_sp_IsValidLog) C_sp_IsValidLog (entry A_sp_IsValidLog I_sp_IsValidLog x)).map (keepRet tt K_sp_IsValidLog)).ev = ((T_sp_IsValidLog x.1.1.1 x.1.1.2.1 x.1.1.2.2.1).map fun r => some ((((r, ()), ())) : K_sp_IsValidLog.T)).ev := fun _ => by kernel_rfl

theorem o_sp_IsValidLog : LoopsOK E_sp_IsValidLog tt Z_sp_IsValidLog O_sp_IsValidLog C_sp_IsValidLog := by
  have h : loopsOf C_sp_IsValidLog = [] := by kernel_rfl
  unfold LoopsOK
  rw [h]
  exact fun _ h => absurd h List.not_mem_nil

theorem ok_sp_IsValidLog : FnOK prog E_sp_IsValidLog tt 21 D_sp_IsValidLog K_sp_IsValidLog Z_sp_IsValidLog O_sp_IsValidLog f21 C_sp_IsValidLog (fun x => T_sp_IsValidLog x.1.1.1 x.1.1.2.1 x.1.1.2.2.1) (fun r => ((r, ()), ())) where
  at_ := func21
  name := by kernel_rfl
  body := by kernel_rfl
  res := by kernel_rfl
  ok := by kernel_rfl
  arity := fun _ => Nat.le_of_ble_eq_true (by kernel_rfl)
  pin := fun _ => by kernel_rfl
  chk := by kernel_rfl
  loops := o_sp_IsValidLog
  run := e_sp_IsValidLog
  F := fun _ => rfl
  emb := fun _ => rfl

theorem fd_sp_IsValidLog : FDok prog (21, D_sp_IsValidLog) := fn_ok mixed (env_ok (List.forall_mem_cons.2 ⟨fd_sp_l12Valid, fun _ h => absurd h List.not_mem_nil⟩)) tabOK ok_sp_IsValidLog

theorem e_im_IsValidLog : ∀ x : D_im_IsValidLog.T, ((acode E_im_IsValidLog tt Z_im_IsValidLog (orcOf O_im_IsValidLog) C_im_IsValidLog (entry A_im_IsValidLog I_im_IsValidLog x)).map (keepRet tt K_im_IsValidLog)).ev = ((T_im_IsValidLog x.1.1.1 x.1.1.2.1 x.1.1.2.2.1).map fun r => some ((((r, ()), ())) : K_im_IsValidLog.T)).ev := fun _ => by kernel_rfl

theorem o_im_IsValidLog : LoopsOK E_im_IsValidLog tt Z_im_IsValidLog O_im_IsValidLog C_im_IsValidLog := by
  have h : loopsOf C_im_IsValidLog = [] := by kernel_rfl
  unfold LoopsOK
  rw [h]
  exact fun _ h => absurd h List.not_mem_nil

theorem ok_im_IsValidLog : FnOK prog E_im_IsValidLog tt 23 D_im_IsValidLog K_im_IsValidLog Z_im_IsValidLog O_im_IsValidLog f23 C_im_IsValidLog (fun x => T_im_IsValidLog x.1.1.1 x.1.1.2.1 x.1.1.2.2.1) (fun r => ((r, ()), ())) where
  at_ := func23
  name := by kernel_rfl
  body := by kernel_rfl
  res := by kernel_rfl
  ok := by kernel_rfl
  arity := fun _ => Nat.le_of_ble_eq_true (by kernel_rfl)
  pin := fun _ => by kernel_rfl
  chk := by kernel_rfl
  loops := o_im_IsValidLog
  run := e_im_IsValidLog
  F := fun _ => rfl
  emb := fun _ => rfl

theorem fd_im_IsValidLog : FDok prog (23, D_im_IsValidLog) := fn_ok mixed (env_ok (List.forall_mem_cons.2 ⟨fd_im_readRecords, fun _ h => absurd h List.not_mem_nil⟩)) tabOK ok_im_IsValidLog

theorem e_lw_FnExactIsValidLog : ∀ x : D_lw_FnExactIsValidLog.T, ((acode E_lw_FnExactIsValidLog tt Z_lw_FnExactIsValidLog (orcOf O_lw_FnExactIsValidLog) C_lw_FnExactIsValidLog (entry A_lw_FnExactIsValidLog I_lw_FnExactIsValidLog x)).map (keepRet tt K_lw_FnExactIsValidLog)).ev = ((T_lw_FnExactIsValidLog x.1.1.1 x.1.1.2.1 x.1.1.2.2.1).map fun r => some ((((r, ()), ())) : K_lw_FnExactIsValidLog.T)).ev := fun _ => by kernel_rfl

theorem o_lw_FnExactIsValidLog : LoopsOK E_lw_FnExactIsValidLog tt Z_lw_FnExactIsValidLog O_lw_FnExactIsValidLog C_lw_FnExactIsValidLog := by
  have h : loopsOf C_lw_FnExactIsValidLog = [] := by kernel_rfl
  unfold LoopsOK
  rw [h]
  exact fun _ h => absurd h List.not_mem_nil

theorem ok_lw_FnExactIsValidLog : FnOK prog E_lw_FnExactIsValidLog tt 5 D_lw_FnExactIsValidLog K_lw_FnExactIsValidLog Z_lw_FnExactIsValidLog O_lw_FnExactIsValidLog f5 C_lw_FnExactIsValidLog (fun x => T_lw_FnExactIsValidLog x.1.1.1 x.1.1.2.1 x.1.1.2.2.1) (fun r => ((r, ()), ())) where
  at_ := func5
  name := by kernel_rfl
  body := by kernel_rfl
  res := by kernel_rfl
  ok := by kernel_rfl
  arity := fun _ => Nat.le_of_ble_eq_true (by kernel_rfl)
  pin := fun _ => by kernel_rfl
  chk := by kernel_rfl
  loops := o_lw_FnExactIsValidLog
  run := e_lw_FnExactIsValidLog
  F := fun _ => rfl
  emb := fun _ => rfl

theorem fd_lw_FnExactIsValidLog : FDok prog (5, D_lw_FnExactIsValidLog) := fn_ok mixed (env_ok (List.forall_mem_cons.2 ⟨fd_lw_szLog, List.forall_mem_cons.2 ⟨fd_lw_toLog, List.forall_mem_cons.2 ⟨fd_sp_IsValidLog, List.forall_mem_cons.2 ⟨fd_im_IsValidLog, fun _ h => absurd h List.not_mem_nil⟩⟩⟩⟩)) tabOK ok_lw_FnExactIsValidLog

theorem e_sp_SyncLog : ∀ x : D_sp_SyncLog.T, ((acode E_sp_SyncLog tt Z_sp_SyncLog (orcOf O_sp_SyncLog) C_sp_SyncLog (entry A_sp_SyncLog I_sp_SyncLog x)).map (keepRet tt K_sp_SyncLog)).ev = ((T_sp_SyncLog x.1.1.1 x.1.1.2.1 x.1.1.2.2.1).map fun r => some (((((r.1, (r.2.1, (r.2.2.1, ()))), (r.2.2.2, ())), ())) : K_sp_SyncLog.T)).ev := fun _ => by kernel_rfl

theorem o_sp_SyncLog : LoopsOK E_sp_SyncLog tt Z_sp_SyncLog O_sp_SyncLog C_sp_SyncLog := by
  have h : loopsOf C_sp_SyncLog = [] := by kernel_rfl
  unfold LoopsOK
  rw [h]
  exact fun _ h => absurd h List.not_mem_nil

theorem ok_sp_SyncLog : FnOK prog E_sp_SyncLog tt 26 D_sp_SyncLog K_sp_SyncLog Z_sp_SyncLog O_sp_SyncLog f26 C_sp_SyncLog (fun x => T_sp_SyncLog x.1.1.1 x.1.1.2.1 x.1.1.2.2.1) (fun r => (((r.1, (r.2.1, (r.2.2.1, ()))), (r.2.2.2, ())), ())) where
  at_ := func26
  name := by kernel_rfl
  body := by kernel_rfl
  res := by kernel_rfl
  ok := by kernel_rfl
  arity := fun _ => Nat.le_of_ble_eq_true (by kernel_rfl)
  pin := fun _ => by kernel_rfl
  chk := by kernel_rfl
  loops := o_sp_SyncLog
  run := e_sp_SyncLog
  F := fun _ => rfl
  emb := fun _ => rfl

theorem fd_sp_SyncLog : FDok prog (26, D_sp_SyncLog) := fn_ok mixed (env_ok (List.forall_mem_cons.2 ⟨fd_sp_l12Valid, fun _ h => absurd h List.not_mem_nil⟩)) tabOK ok_sp_SyncLog

theorem e_im_SyncLog : ∀ x : D_im_SyncLog.T, ((acode E_im_SyncLog tt Z_im_SyncLog (orcOf O_im_SyncLog) C_im_SyncLog (entry A_im_SyncLog I_im_SyncLog x)).map (keepRet tt K_im_SyncLog)).ev = ((T_im_SyncLog x.1.1.1 x.1.1.2.1 x.1.1.2.2.1).map fun r => some (((((r.1, (r.2.1, (r.2.2.1, ()))), (r.2.2.2, ())), ())) : K_im_SyncLog.T)).ev := fun _ => by kernel_rfl

theorem o_im_SyncLog : LoopsOK E_im_SyncLog tt Z_im_SyncLog O_im_SyncLog C_im_SyncLog := by
  have h : loopsOf C_im_SyncLog = [] := by kernel_rfl
  unfold LoopsOK
  rw [h]
  exact fun _ h => absurd h List.not_mem_nil

theorem ok_im_SyncLog : FnOK prog E_im_SyncLog tt 27 D_im_SyncLog K_im_SyncLog Z_im_SyncLog O_im_SyncLog f27 C_im_SyncLog (fun x => T_im_SyncLog x.1.1.1 x.1.1.2.1 x.1.1.2.2.1) (fun r => (((r.1, (r.2.1, (r.2.2.1, ()))), (r.2.2.2, ())), ())) where
  at_ := func27
  name := by kernel_rfl
  body := by kernel_rfl
  res := by kernel_rfl
  ok := by kernel_rfl
  arity := fun _ => Nat.le_of_ble_eq_true (by kernel_rfl)
  pin := fun _ => by kernel_rfl
  chk := by kernel_rfl
  loops := o_im_SyncLog
  run := e_im_SyncLog
  F := fun _ => rfl
  emb := fun _ => rfl

theorem fd_im_SyncLog : FDok prog (27, D_im_SyncLog) := fn_ok mixed (env_ok (List.forall_mem_cons.2 ⟨fd_im_IsValidLog, fun _ h => absurd h List.not_mem_nil⟩)) tabOK ok_im_SyncLog

theorem e_lw_FnExactSyncLog : ∀ x : D_lw_FnExactSyncLog.T, ((acode E_lw_FnExactSyncLog tt Z_lw_FnExactSyncLog (orcOf O_lw_FnExactSyncLog) C_lw_FnExactSyncLog (entry A_lw_FnExactSyncLog I_lw_FnExactSyncLog x)).map (keepRet tt K_lw_FnExactSyncLog)).ev = ((T_lw_FnExactSyncLog x.1.1.1 x.1.1.2.1 x.1.1.2.2.1).map fun r => some ((((r, ()), ())) : K_lw_FnExactSyncLog.T)).ev := fun _ => by kernel_rfl

theorem o_lw_FnExactSyncLog : LoopsOK E_lw_FnExactSyncLog tt Z_lw_FnExactSyncLog O_lw_FnExactSyncLog C_lw_FnExactSyncLog := by
  have h : loopsOf C_lw_FnExactSyncLog = [] := by kernel_rfl
  unfold LoopsOK
  rw [h]
  exact fun _ h => absurd h List.not_mem_nil

theorem ok_lw_FnExactSyncLog : FnOK prog E_lw_FnExactSyncLog tt 7 D_lw_FnExactSyncLog K_lw_FnExactSyncLog Z_lw_FnExactSyncLog O_lw_FnExactSyncLog f7 C_lw_FnExactSyncLog (fun x => T_lw_FnExactSyncLog x.1.1.1 x.1.1.2.1 x.1.1.2.2.1) (fun r => ((r, ()), ())) where
  at_ := func7
  name := by kernel_rfl
  body := by kernel_rfl
  res := by kernel_rfl
  ok := by kernel_rfl
  arity := fun _ => Nat.le_of_ble_eq_true (by kernel_rfl)
  pin := fun _ => by kernel_rfl
  chk := by kernel_rfl
  loops := o_lw_FnExactSyncLog
  run := e_lw_FnExactSyncLog
  F := fun _ => rfl
  emb := fun _ => rfl

theorem fd_lw_FnExactSyncLog : FDok prog (7, D_lw_FnExactSyncLog) := fn_ok mixed (env_ok (List.forall_mem_cons.2 ⟨fd_lw_szLog, List.forall_mem_cons.2 ⟨fd_lw_toLog, List.forall_mem_cons.2 ⟨fd_sp_SyncLog, List.forall_mem_cons.2 ⟨fd_im_SyncLog, List.forall_mem_cons.2 ⟨fd_lw_eqLog, fun _ h => absurd h List.not_mem_nil⟩⟩⟩⟩⟩)) tabOK ok_lw_FnExactSyncLog

theorem e_sp_AppendRecord : ∀ x : D_sp_AppendRecord.T, ((acode E_sp_AppendRecord tt Z_sp_AppendRecord (orcOf O_sp_AppendRecord) C_sp_AppendRecord (entry A_sp_AppendRecord I_sp_AppendRecord x)).map (keepRet tt K_sp_AppendRecord)).ev = ((T_sp_AppendRecord x.1.1.1 x.1.1.2.1 x.1.1.2.2.1 x.1.2.1.1 x.1.2.1.2.1).map fun r => some (((((r.1, (r.2.1, (r.2.2.1, ()))), (r.2.2.2, ())), ())) : K_sp_AppendRecord.T)).ev := fun _ => by kernel_rfl

theorem o_sp_AppendRecord : LoopsOK E_sp_AppendRecord tt Z_sp_AppendRecord O_sp_AppendRecord C_sp_AppendRecord := by
  have h : loopsOf C_sp_AppendRecord = [] := by kernel_rfl
  unfold LoopsOK
  rw [h]
  exact fun _ h => absurd h List.not_mem_nil

theorem ok_sp_AppendRecord : FnOK prog E_sp_AppendRecord tt 28 D_sp_AppendRecord K_sp_AppendRecord Z_sp_AppendRecord O_sp_AppendRecord f28 C_sp_AppendRecord (fun x => T_sp_AppendRecord x.1.1.1 x.1.1.2.1 x.1.1.2.2.1 x.1.2.1.1 x.1.2.1.2.1) (fun r => (((r.1, (r.2.1, (r.2.2.1, ()))), (r.2.2.2, ())), ())) where
  at_ := func28
  name := by kernel_rfl
  body := by kernel_rfl
  res := by kernel_rfl
  ok := by kernel_rfl
  arity := fun _ => Nat.le_of_ble_eq_true (by kernel_rfl)
  pin := fun _ => by kernel_rfl
  chk := by kernel_rfl
  loops := o_sp_AppendRecord
  run := e_sp_AppendRecord
  F := fun _ => rfl
  emb := fun _ => rfl

theorem fd_sp_AppendRecord : FDok prog (28, D_sp_AppendRecord) := fn_ok mixed (env_ok (List.forall_mem_cons.2 ⟨fd_sp_l12Valid, List.forall_mem_cons.2 ⟨fd_sp_l12Record, List.forall_mem_cons.2 ⟨fd_sp_l12Line, fun _ h => absurd h List.not_mem_nil⟩⟩⟩)) tabOK ok_sp_AppendRecord

theorem e_im_AppendRecord : ∀ x : D_im_AppendRecord.T, ((acode E_im_AppendRecord tt Z_im_AppendRecord (orcOf O_im_AppendRecord) C_im_AppendRecord (entry A_im_AppendRecord I_im_AppendRecord x)).map (keepRet tt K_im_AppendRecord)).ev = ((T_im_AppendRecord x.1.1.1 x.1.1.2.1 x.1.1.2.2.1 x.1.2.1.1 x.1.2.1.2.1).map fun r => some (((((r.1, (r.2.1, (r.2.2.1, ()))), (r.2.2.2, ())), ())) : K_im_AppendRecord.T)).ev := fun _ => by kernel_rfl

theorem o_im_AppendRecord : LoopsOK E_im_AppendRecord tt Z_im_AppendRecord O_im_AppendRecord C_im_AppendRecord := by
  have h : loopsOf C_im_AppendRecord = [] := by kernel_rfl
  unfold LoopsOK
  rw [h]
  exact fun _ h => absurd h List.not_mem_nil

theorem ok_im_AppendRecord : FnOK prog E_im_AppendRecord tt 29 D_im_AppendRecord K_im_AppendRecord Z_im_AppendRecord O_im_AppendRecord f29 C_im_AppendRecord (fun x => T_im_AppendRecord x.1.1.1 x.1.1.2.1 x.1.1.2.2.1 x.1.2.1.1 x.1.2.1.2.1) (fun r => (((r.1, (r.2.1, (r.2.2.1, ()))), (r.2.2.2, ())), ())) where
  at_ := func29
  name := by kernel_rfl
  body := by kernel_rfl
  res := by kernel_rfl
  ok := by kernel_rfl
  arity := fun _ => Nat.le_of_ble_eq_true (by kernel_rfl)
  pin := fun _ => by kernel_rfl
  chk := by kernel_rfl
  loops := o_im_AppendRecord
  run := e_im_AppendRecord
  F := fun _ => rfl
  emb := fun _ => rfl

theorem fd_im_AppendRecord : FDok prog (29, D_im_AppendRecord) := fn_ok mixed (env_ok (List.forall_mem_cons.2 ⟨fd_im_IsValidLog, List.forall_mem_cons.2 ⟨fd_im_IsValidRecord, List.forall_mem_cons.2 ⟨fd_im_EncodeRecord, fun _ h => absurd h List.not_mem_nil⟩⟩⟩)) tabOK ok_im_AppendRecord

theorem e_lw_FnExactAppendRecord : ∀ x : D_lw_FnExactAppendRecord.T, ((acode E_lw_FnExactAppendRecord tt Z_lw_FnExactAppendRecord (orcOf O_lw_FnExactAppendRecord) C_lw_FnExactAppendRecord (entry A_lw_FnExactAppendRecord I_lw_FnExactAppendRecord x)).map (keepRet tt K_lw_FnExactAppendRecord)).ev = ((T_lw_FnExactAppendRecord x.1.1.1 x.1.1.2.1 x.1.1.2.2.1 x.1.2.1.1 x.1.2.1.2.1).map fun r => some ((((r, ()), ())) : K_lw_FnExactAppendRecord.T)).ev := fun _ => by kernel_rfl

theorem o_lw_FnExactAppendRecord : LoopsOK E_lw_FnExactAppendRecord tt Z_lw_FnExactAppendRecord O_lw_FnExactAppendRecord C_lw_FnExactAppendRecord := by
  have h : loopsOf C_lw_FnExactAppendRecord = [] := by kernel_rfl
  unfold LoopsOK
  rw [h]
  exact fun _ h => absurd h List.not_mem_nil

theorem ok_lw_FnExactAppendRecord : FnOK prog E_lw_FnExactAppendRecord tt 8 D_lw_FnExactAppendRecord K_lw_FnExactAppendRecord Z_lw_FnExactAppendRecord O_lw_FnExactAppendRecord f8 C_lw_FnExactAppendRecord (fun x => T_lw_FnExactAppendRecord x.1.1.1 x.1.1.2.1 x.1.1.2.2.1 x.1.2.1.1 x.1.2.1.2.1) (fun r => ((r, ()), ())) where
  at_ := func8
  name := by kernel_rfl
  body := by kernel_rfl
  res := by kernel_rfl
  ok := by kernel_rfl
  arity := fun _ => Nat.le_of_ble_eq_true (by kernel_rfl)
  pin := fun _ => by kernel_rfl
  chk := by kernel_rfl
  loops := o_lw_FnExactAppendRecord
  run := e_lw_FnExactAppendRecord
  F := fun _ => rfl
  emb := fun _ => rfl

theorem fd_lw_FnExactAppendRecord : FDok prog (8, D_lw_FnExactAppendRecord) := fn_ok mixed (env_ok (List.forall_mem_cons.2 ⟨fd_lw_szLog, List.forall_mem_cons.2 ⟨fd_lw_szLogRecord, List.forall_mem_cons.2 ⟨fd_lw_toLog, List.forall_mem_cons.2 ⟨fd_lw_toLogRecord, List.forall_mem_cons.2 ⟨fd_sp_AppendRecord, List.forall_mem_cons.2 ⟨fd_im_AppendRecord, List.forall_mem_cons.2 ⟨fd_lw_eqLog, fun _ h => absurd h List.not_mem_nil⟩⟩⟩⟩⟩⟩⟩)) tabOK ok_lw_FnExactAppendRecord

theorem e_lw_szIntS : ∀ x : D_lw_szIntS.T, ((acode E_lw_szIntS tt Z_lw_szIntS (orcOf O_lw_szIntS) C_lw_szIntS (entry A_lw_szIntS I_lw_szIntS x)).map (keepRet tt K_lw_szIntS)).ev = ((T_lw_szIntS x.1.1 x.1.2.1).map fun r => some ((((r, ()), ())) : K_lw_szIntS.T)).ev := fun _ => by kernel_rfl

theorem o_lw_szIntS : LoopsOK E_lw_szIntS tt Z_lw_szIntS O_lw_szIntS C_lw_szIntS := by
  have h : loopsOf C_lw_szIntS = [] := by kernel_rfl
  unfold LoopsOK
  rw [h]
  exact fun _ h => absurd h List.not_mem_nil

theorem ok_lw_szIntS : FnOK prog E_lw_szIntS tt 91 D_lw_szIntS K_lw_szIntS Z_lw_szIntS O_lw_szIntS f91 C_lw_szIntS (fun x => T_lw_szIntS x.1.1 x.1.2.1) (fun r => ((r, ()), ())) where
  at_ := func91
  name := by kernel_rfl
  body := by kernel_rfl
  res := by kernel_rfl
  ok := by kernel_rfl
  arity := fun _ => Nat.le_of_ble_eq_true (by kernel_rfl)
  pin := fun _ => by kernel_rfl
  chk := by kernel_rfl
  loops := o_lw_szIntS
  run := e_lw_szIntS
  F := fun _ => rfl
  emb := fun _ => rfl

theorem fd_lw_szIntS : FDok prog (91, D_lw_szIntS) := fn_ok mixed (env_ok (fun _ h => absurd h List.not_mem_nil)) tabOK ok_lw_szIntS

theorem e_lw_szIntSS : ∀ x : D_lw_szIntSS.T, ((acode E_lw_szIntSS tt Z_lw_szIntSS (orcOf O_lw_szIntSS) C_lw_szIntSS (entry A_lw_szIntSS I_lw_szIntSS x)).map (keepRet tt K_lw_szIntSS)).ev = ((T_lw_szIntSS x.1.1 x.1.2.1).map fun r => some ((((r, ()), ())) : K_lw_szIntSS.T)).ev := fun _ => by kernel_rfl

noncomputable def B_lw_szIntSS_0 : Code := ((loopsOf C_lw_szIntSS).find? fun p => Nat.beq p.1 0).elim .skip (·.2)
theorem l_lw_szIntSS_0 : (DL_lw_szIntSS_0).OK E_lw_szIntSS tt Z_lw_szIntSS (orcOf O_lw_szIntSS) B_lw_szIntSS_0 where
  ok := by kernel_rfl
  oke := by kernel_rfl
  okr := by kernel_rfl
  eta := fun _ => rfl
  step := fun _ _ => by kernel_rfl

theorem o_lw_szIntSS : LoopsOK E_lw_szIntSS tt Z_lw_szIntSS O_lw_szIntSS C_lw_szIntSS := by
  have h : loopsOf C_lw_szIntSS = [(0, B_lw_szIntSS_0)] := by kernel_rfl
  unfold LoopsOK
  rw [h]
  exact List.forall_mem_cons.2 ⟨fun d h => (by have e : some (DL_lw_szIntSS_0) = some d := h; cases e; exact l_lw_szIntSS_0), fun _ h => absurd h List.not_mem_nil⟩

theorem ok_lw_szIntSS : FnOK prog E_lw_szIntSS tt 105 D_lw_szIntSS K_lw_szIntSS Z_lw_szIntSS O_lw_szIntSS f105 C_lw_szIntSS (fun x => T_lw_szIntSS x.1.1 x.1.2.1) (fun r => ((r, ()), ())) where
  at_ := func105
  name := by kernel_rfl
  body := by kernel_rfl
  res := by kernel_rfl
  ok := by kernel_rfl
  arity := fun _ => Nat.le_of_ble_eq_true (by kernel_rfl)
  pin := fun _ => by kernel_rfl
  chk := by kernel_rfl
  loops := o_lw_szIntSS
  run := e_lw_szIntSS
  F := fun _ => rfl
  emb := fun _ => rfl

theorem fd_lw_szIntSS : FDok prog (105, D_lw_szIntSS) := fn_ok mixed (env_ok (List.forall_mem_cons.2 ⟨fd_lw_szIntS, fun _ h => absurd h List.not_mem_nil⟩)) tabOK ok_lw_szIntSS

theorem e_lw_szField : ∀ x : D_lw_szField.T, ((acode E_lw_szField tt Z_lw_szField (orcOf O_lw_szField) C_lw_szField (entry A_lw_szField I_lw_szField x)).map (keepRet tt K_lw_szField)).ev = ((T_lw_szField x.1.1.1 x.1.1.2.1 x.1.2.1).map fun r => some ((((r, ()), ())) : K_lw_szField.T)).ev := fun _ => by kernel_rfl

theorem o_lw_szField : LoopsOK E_lw_szField tt Z_lw_szField O_lw_szField C_lw_szField := by
  have h : loopsOf C_lw_szField = [] := by kernel_rfl
  unfold LoopsOK
  rw [h]
  exact fun _ h => absurd h List.not_mem_nil

theorem ok_lw_szField : FnOK prog E_lw_szField tt 90 D_lw_szField K_lw_szField Z_lw_szField O_lw_szField f90 C_lw_szField (fun x => T_lw_szField x.1.1.1 x.1.1.2.1 x.1.2.1) (fun r => ((r, ()), ())) where
  at_ := func90
  name := by kernel_rfl
  body := by kernel_rfl
  res := by kernel_rfl
  ok := by kernel_rfl
  arity := fun _ => Nat.le_of_ble_eq_true (by kernel_rfl)
  pin := fun _ => by kernel_rfl
  chk := by kernel_rfl
  loops := o_lw_szField
  run := e_lw_szField
  F := fun _ => rfl
  emb := fun _ => rfl

theorem fd_lw_szField : FDok prog (90, D_lw_szField) := fn_ok mixed (env_ok (List.forall_mem_cons.2 ⟨fd_lw_szIntS, List.forall_mem_cons.2 ⟨fd_lw_szIntSS, fun _ h => absurd h List.not_mem_nil⟩⟩)) tabOK ok_lw_szField

theorem e_lw_szAtlas : ∀ x : D_lw_szAtlas.T, ((acode E_lw_szAtlas tt Z_lw_szAtlas (orcOf O_lw_szAtlas) C_lw_szAtlas (entry A_lw_szAtlas I_lw_szAtlas x)).map (keepRet tt K_lw_szAtlas)).ev = ((T_lw_szAtlas x.1.1.1 x.1.1.2.1 x.1.1.2.2.1 x.1.1.2.2.2.1 x.1.2.1).map fun r => some ((((r, ()), ())) : K_lw_szAtlas.T)).ev := fun _ => by kernel_rfl

theorem o_lw_szAtlas : LoopsOK E_lw_szAtlas tt Z_lw_szAtlas O_lw_szAtlas C_lw_szAtlas := by
  have h : loopsOf C_lw_szAtlas = [] := by kernel_rfl
  unfold LoopsOK
  rw [h]
  exact fun _ h => absurd h List.not_mem_nil

theorem ok_lw_szAtlas : FnOK prog E_lw_szAtlas tt 71 D_lw_szAtlas K_lw_szAtlas Z_lw_szAtlas O_lw_szAtlas f71 C_lw_szAtlas (fun x => T_lw_szAtlas x.1.1.1 x.1.1.2.1 x.1.1.2.2.1 x.1.1.2.2.2.1 x.1.2.1) (fun r => ((r, ()), ())) where
  at_ := func71
  name := by kernel_rfl
  body := by kernel_rfl
  res := by kernel_rfl
  ok := by kernel_rfl
  arity := fun _ => Nat.le_of_ble_eq_true (by kernel_rfl)
  pin := fun _ => by kernel_rfl
  chk := by kernel_rfl
  loops := o_lw_szAtlas
  run := e_lw_szAtlas
  F := fun _ => rfl
  emb := fun _ => rfl

theorem fd_lw_szAtlas : FDok prog (71, D_lw_szAtlas) := fn_ok mixed (env_ok (List.forall_mem_cons.2 ⟨fd_lw_szField, List.forall_mem_cons.2 ⟨fd_lw_szIntS, fun _ h => absurd h List.not_mem_nil⟩⟩)) tabOK ok_lw_szAtlas

theorem e_lw_szConsole : ∀ x : D_lw_szConsole.T, ((acode E_lw_szConsole tt Z_lw_szConsole (orcOf O_lw_szConsole) C_lw_szConsole (entry A_lw_szConsole I_lw_szConsole x)).map (keepRet tt K_lw_szConsole)).ev = ((T_lw_szConsole x.1.1.1 x.1.1.2.1 x.1.1.2.2.1 x.1.1.2.2.2.1 x.1.1.2.2.2.2.1 x.1.1.2.2.2.2.2.1 x.1.1.2.2.2.2.2.2.1 x.1.2.1).map fun r => some ((((r, ()), ())) : K_lw_szConsole.T)).ev := fun _ => by kernel_rfl

theorem o_lw_szConsole : LoopsOK E_lw_szConsole tt Z_lw_szConsole O_lw_szConsole C_lw_szConsole := by
  have h : loopsOf C_lw_szConsole = [] := by kernel_rfl
  unfold LoopsOK
  rw [h]
  exact fun _ h => absurd h List.not_mem_nil

theorem ok_lw_szConsole : FnOK prog E_lw_szConsole tt 46 D_lw_szConsole K_lw_szConsole Z_lw_szConsole O_lw_szConsole f46 C_lw_szConsole (fun x => T_lw_szConsole x.1.1.1 x.1.1.2.1 x.1.1.2.2.1 x.1.1.2.2.2.1 x.1.1.2.2.2.2.1 x.1.1.2.2.2.2.2.1 x.1.1.2.2.2.2.2.2.1 x.1.2.1) (fun r => ((r, ()), ())) where
  at_ := func46
  name := by kernel_rfl
  body := by kernel_rfl
  res := by kernel_rfl
  ok := by kernel_rfl
  arity := fun _ => Nat.le_of_ble_eq_true (by kernel_rfl)
  pin := fun _ => by kernel_rfl
  chk := by kernel_rfl
  loops := o_lw_szConsole
  run := e_lw_szConsole
  F := fun _ => rfl
  emb := fun _ => rfl

theorem fd_lw_szConsole : FDok prog (46, D_lw_szConsole) := fn_ok mixed (env_ok (List.forall_mem_cons.2 ⟨fd_lw_szAtlas, List.forall_mem_cons.2 ⟨fd_lw_szLog, fun _ h => absurd h List.not_mem_nil⟩⟩)) tabOK ok_lw_szConsole

theorem e_lw_toIntS : ∀ x : D_lw_toIntS.T, ((acode E_lw_toIntS tt Z_lw_toIntS (orcOf O_lw_toIntS) C_lw_toIntS (entry A_lw_toIntS I_lw_toIntS x)).map (keepRet tt K_lw_toIntS)).ev = ((T_lw_toIntS x.1.1).map fun r => some (((((), ()), (r, ()))) : K_lw_toIntS.T)).ev := fun _ => by kernel_rfl

noncomputable def B_lw_toIntS_0 : Code := ((loopsOf C_lw_toIntS).find? fun p => Nat.beq p.1 0).elim .skip (·.2)
theorem l_lw_toIntS_0 : (DL_lw_toIntS_0).OK E_lw_toIntS tt Z_lw_toIntS (orcOf O_lw_toIntS) B_lw_toIntS_0 where
  ok := by kernel_rfl
  oke := by kernel_rfl
  okr := by kernel_rfl
  eta := fun _ => rfl
  step := fun _ _ => by kernel_rfl

theorem o_lw_toIntS : LoopsOK E_lw_toIntS tt Z_lw_toIntS O_lw_toIntS C_lw_toIntS := by
  have h : loopsOf C_lw_toIntS = [(0, B_lw_toIntS_0)] := by kernel_rfl
  unfold LoopsOK
  rw [h]
  exact List.forall_mem_cons.2 ⟨fun d h => (by have e : some (DL_lw_toIntS_0) = some d := h; cases e; exact l_lw_toIntS_0), fun _ h => absurd h List.not_mem_nil⟩

theorem ok_lw_toIntS : FnOK prog E_lw_toIntS tt 95 D_lw_toIntS K_lw_toIntS Z_lw_toIntS O_lw_toIntS f95 C_lw_toIntS (fun x => T_lw_toIntS x.1.1) (fun r => (((), ()), (r, ()))) where
  at_ := func95
  name := by kernel_rfl
  body := by kernel_rfl
  res := by kernel_rfl
  ok := by kernel_rfl
  arity := fun _ => Nat.le_of_ble_eq_true (by kernel_rfl)
  pin := fun _ => by kernel_rfl
  chk := by kernel_rfl
  loops := o_lw_toIntS
  run := e_lw_toIntS
  F := fun _ => rfl
  emb := fun _ => rfl

theorem fd_lw_toIntS : FDok prog (95, D_lw_toIntS) := fn_ok mixed (env_ok (fun _ h => absurd h List.not_mem_nil)) tabOK ok_lw_toIntS

theorem e_lw_toIntSS : ∀ x : D_lw_toIntSS.T, ((acode E_lw_toIntSS tt Z_lw_toIntSS (orcOf O_lw_toIntSS) C_lw_toIntSS (entry A_lw_toIntSS I_lw_toIntSS x)).map (keepRet tt K_lw_toIntSS)).ev = ((T_lw_toIntSS x.1.1).map fun r => some (((((), ()), (r, ()))) : K_lw_toIntSS.T)).ev := fun _ => by kernel_rfl

noncomputable def B_lw_toIntSS_0 : Code := ((loopsOf C_lw_toIntSS).find? fun p => Nat.beq p.1 0).elim .skip (·.2)
theorem l_lw_toIntSS_0 : (DL_lw_toIntSS_0).OK E_lw_toIntSS tt Z_lw_toIntSS (orcOf O_lw_toIntSS) B_lw_toIntSS_0 where
  ok := by kernel_rfl
  oke := by kernel_rfl
  okr := by kernel_rfl
  eta := fun _ => rfl
  step := fun _ _ => by kernel_rfl

theorem o_lw_toIntSS : LoopsOK E_lw_toIntSS tt Z_lw_toIntSS O_lw_toIntSS C_lw_toIntSS := by
  have h : loopsOf C_lw_toIntSS = [(0, B_lw_toIntSS_0)] := by kernel_rfl
  unfold LoopsOK
  rw [h]
  exact List.forall_mem_cons.2 ⟨fun d h => (by have e : some (DL_lw_toIntSS_0) = some d := h; cases e; exact l_lw_toIntSS_0), fun _ h => absurd h List.not_mem_nil⟩

theorem ok_lw_toIntSS : FnOK prog E_lw_toIntSS tt 108 D_lw_toIntSS K_lw_toIntSS Z_lw_toIntSS O_lw_toIntSS f108 C_lw_toIntSS (fun x => T_lw_toIntSS x.1.1) (fun r => (((), ()), (r, ()))) where
  at_ := func108
  name := by kernel_rfl
  body := by kernel_rfl
  res := by kernel_rfl
  ok := by kernel_rfl
  arity := fun _ => Nat.le_of_ble_eq_true (by kernel_rfl)
  pin := fun _ => by kernel_rfl
  chk := by kernel_rfl
  loops := o_lw_toIntSS
  run := e_lw_toIntSS
  F := fun _ => rfl
  emb := fun _ => rfl

theorem fd_lw_toIntSS : FDok prog (108, D_lw_toIntSS) := fn_ok mixed (env_ok (List.forall_mem_cons.2 ⟨fd_lw_toIntS, fun _ h => absurd h List.not_mem_nil⟩)) tabOK ok_lw_toIntSS

theorem e_lw_toField : ∀ x : D_lw_toField.T, ((acode E_lw_toField tt Z_lw_toField (orcOf O_lw_toField) C_lw_toField (entry A_lw_toField I_lw_toField x)).map (keepRet tt K_lw_toField)).ev = ((T_lw_toField x.1.1.1 x.1.1.2.1).map fun r => some (((((r.1, (r.2, ())), ()), ())) : K_lw_toField.T)).ev := fun _ => by kernel_rfl

theorem o_lw_toField : LoopsOK E_lw_toField tt Z_lw_toField O_lw_toField C_lw_toField := by
  have h : loopsOf C_lw_toField = [] := by kernel_rfl
  unfold LoopsOK
  rw [h]
  exact fun _ h => absurd h List.not_mem_nil

theorem ok_lw_toField : FnOK prog E_lw_toField tt 94 D_lw_toField K_lw_toField Z_lw_toField O_lw_toField f94 C_lw_toField (fun x => T_lw_toField x.1.1.1 x.1.1.2.1) (fun r => (((r.1, (r.2, ())), ()), ())) where
  at_ := func94
  name := by kernel_rfl
  body := by kernel_rfl
  res := by kernel_rfl
  ok := by kernel_rfl
  arity := fun _ => Nat.le_of_ble_eq_true (by kernel_rfl)
  pin := fun _ => by kernel_rfl
  chk := by kernel_rfl
  loops := o_lw_toField
  run := e_lw_toField
  F := fun _ => rfl
  emb := fun _ => rfl

theorem fd_lw_toField : FDok prog (94, D_lw_toField) := fn_ok mixed (env_ok (List.forall_mem_cons.2 ⟨fd_lw_toIntS, List.forall_mem_cons.2 ⟨fd_lw_toIntSS, fun _ h => absurd h List.not_mem_nil⟩⟩)) tabOK ok_lw_toField

theorem e_lw_toAtlas : ∀ x : D_lw_toAtlas.T, ((acode E_lw_toAtlas tt Z_lw_toAtlas (orcOf O_lw_toAtlas) C_lw_toAtlas (entry A_lw_toAtlas I_lw_toAtlas x)).map (keepRet tt K_lw_toAtlas)).ev = ((T_lw_toAtlas x.1.1.1 x.1.1.2.1 x.1.1.2.2.1 x.1.1.2.2.2.1).map fun r => some (((((r.1, (r.2.1, (r.2.2.1, (r.2.2.2, ())))), ()), ())) : K_lw_toAtlas.T)).ev := fun _ => by kernel_rfl

theorem o_lw_toAtlas : LoopsOK E_lw_toAtlas tt Z_lw_toAtlas O_lw_toAtlas C_lw_toAtlas := by
  have h : loopsOf C_lw_toAtlas = [] := by kernel_rfl
  unfold LoopsOK
  rw [h]
  exact fun _ h => absurd h List.not_mem_nil

theorem ok_lw_toAtlas : FnOK prog E_lw_toAtlas tt 73 D_lw_toAtlas K_lw_toAtlas Z_lw_toAtlas O_lw_toAtlas f73 C_lw_toAtlas (fun x => T_lw_toAtlas x.1.1.1 x.1.1.2.1 x.1.1.2.2.1 x.1.1.2.2.2.1) (fun r => (((r.1, (r.2.1, (r.2.2.1, (r.2.2.2, ())))), ()), ())) where
  at_ := func73
  name := by kernel_rfl
  body := by kernel_rfl
  res := by kernel_rfl
  ok := by kernel_rfl
  arity := fun _ => Nat.le_of_ble_eq_true (by kernel_rfl)
  pin := fun _ => by kernel_rfl
  chk := by kernel_rfl
  loops := o_lw_toAtlas
  run := e_lw_toAtlas
  F := fun _ => rfl
  emb := fun _ => rfl

theorem fd_lw_toAtlas : FDok prog (73, D_lw_toAtlas) := fn_ok mixed (env_ok (List.forall_mem_cons.2 ⟨fd_lw_toField, List.forall_mem_cons.2 ⟨fd_lw_toIntS, fun _ h => absurd h List.not_mem_nil⟩⟩)) tabOK ok_lw_toAtlas

theorem e_lw_toConsole : ∀ x : D_lw_toConsole.T, ((acode E_lw_toConsole tt Z_lw_toConsole (orcOf O_lw_toConsole) C_lw_toConsole (entry A_lw_toConsole I_lw_toConsole x)).map (keepRet tt K_lw_toConsole)).ev = ((T_lw_toConsole x.1.1.1 x.1.1.2.1 x.1.1.2.2.1 x.1.1.2.2.2.1 x.1.1.2.2.2.2.1 x.1.1.2.2.2.2.2.1 x.1.1.2.2.2.2.2.2.1).map fun r => some (((((r.1, (r.2.1, (r.2.2.1, (r.2.2.2.1, (r.2.2.2.2.1, (r.2.2.2.2.2.1, (r.2.2.2.2.2.2, ()))))))), ()), ())) : K_lw_toConsole.T)).ev := fun _ => by kernel_rfl

theorem o_lw_toConsole : LoopsOK E_lw_toConsole tt Z_lw_toConsole O_lw_toConsole C_lw_toConsole := by
  have h : loopsOf C_lw_toConsole = [] := by kernel_rfl
  unfold LoopsOK
  rw [h]
  exact fun _ h => absurd h List.not_mem_nil

theorem ok_lw_toConsole : FnOK prog E_lw_toConsole tt 48 D_lw_toConsole K_lw_toConsole Z_lw_toConsole O_lw_toConsole f48 C_lw_toConsole (fun x => T_lw_toConsole x.1.1.1 x.1.1.2.1 x.1.1.2.2.1 x.1.1.2.2.2.1 x.1.1.2.2.2.2.1 x.1.1.2.2.2.2.2.1 x.1.1.2.2.2.2.2.2.1) (fun r => (((r.1, (r.2.1, (r.2.2.1, (r.2.2.2.1, (r.2.2.2.2.1, (r.2.2.2.2.2.1, (r.2.2.2.2.2.2, ()))))))), ()), ())) where
  at_ := func48
  name := by kernel_rfl
  body := by kernel_rfl
  res := by kernel_rfl
  ok := by kernel_rfl
  arity := fun _ => Nat.le_of_ble_eq_true (by kernel_rfl)
  pin := fun _ => by kernel_rfl
  chk := by kernel_rfl
  loops := o_lw_toConsole
  run := e_lw_toConsole
  F := fun _ => rfl
  emb := fun _ => rfl

theorem fd_lw_toConsole : FDok prog (48, D_lw_toConsole) := fn_ok mixed (env_ok (List.forall_mem_cons.2 ⟨fd_lw_toAtlas, List.forall_mem_cons.2 ⟨fd_lw_toLog, fun _ h => absurd h List.not_mem_nil⟩⟩)) tabOK ok_lw_toConsole

theorem e_sp_l2Row : ∀ x : D_sp_l2Row.T, ((acode E_sp_l2Row tt Z_sp_l2Row (orcOf O_sp_l2Row) C_sp_l2Row (entry A_sp_l2Row I_sp_l2Row x)).map (keepRet tt K_sp_l2Row)).ev = ((T_sp_l2Row x.1.1 x.1.2.1 x.1.2.2.1).map fun r => some ((((r, ()), ())) : K_sp_l2Row.T)).ev := fun _ => by kernel_rfl

noncomputable def B_sp_l2Row_0 : Code := ((loopsOf C_sp_l2Row).find? fun p => Nat.beq p.1 0).elim .skip (·.2)
theorem l_sp_l2Row_0 : (DL_sp_l2Row_0).OK E_sp_l2Row tt Z_sp_l2Row (orcOf O_sp_l2Row) B_sp_l2Row_0 where
  ok := by kernel_rfl
  oke := by kernel_rfl
  okr := by kernel_rfl
  eta := fun _ => rfl
  step := fun _ _ => by kernel_rfl

theorem o_sp_l2Row : LoopsOK E_sp_l2Row tt Z_sp_l2Row O_sp_l2Row C_sp_l2Row := by
  have h : loopsOf C_sp_l2Row = [(0, B_sp_l2Row_0)] := by kernel_rfl
  unfold LoopsOK
  rw [h]
  exact List.forall_mem_cons.2 ⟨fun d h => (by have e : some (DL_sp_l2Row_0) = some d := h; cases e; exact l_sp_l2Row_0), fun _ h => absurd h List.not_mem_nil⟩

theorem ok_sp_l2Row : FnOK prog E_sp_l2Row tt 106 D_sp_l2Row K_sp_l2Row Z_sp_l2Row O_sp_l2Row f106 C_sp_l2Row (fun x => T_sp_l2Row x.1.1 x.1.2.1 x.1.2.2.1) (fun r => ((r, ()), ())) where
  at_ := func106
  name := by kernel_rfl
  body := by kernel_rfl
  res := by kernel_rfl
  ok := by kernel_rfl
  arity := fun _ => Nat.le_of_ble_eq_true (by kernel_rfl)
  pin := fun _ => by kernel_rfl
  chk := by kernel_rfl
  loops := o_sp_l2Row
  run := e_sp_l2Row
  F := fun _ => rfl
  emb := fun _ => rfl

theorem fd_sp_l2Row : FDok prog (106, D_sp_l2Row) := fn_ok mixed (env_ok (List.forall_mem_cons.2 ⟨fd_sp_l1In, fun _ h => absurd h List.not_mem_nil⟩)) tabOK ok_sp_l2Row

theorem e_sp_l2Good : ∀ x : D_sp_l2Good.T, ((acode E_sp_l2Good tt Z_sp_l2Good (orcOf O_sp_l2Good) C_sp_l2Good (entry A_sp_l2Good I_sp_l2Good x)).map (keepRet tt K_sp_l2Good)).ev = ((T_sp_l2Good x.1.1.1 x.1.1.2.1).map fun r => some ((((r, ()), ())) : K_sp_l2Good.T)).ev := fun _ => by kernel_rfl

noncomputable def B_sp_l2Good_0 : Code := ((loopsOf C_sp_l2Good).find? fun p => Nat.beq p.1 0).elim .skip (·.2)
theorem l_sp_l2Good_0 : (DL_sp_l2Good_0).OK E_sp_l2Good tt Z_sp_l2Good (orcOf O_sp_l2Good) B_sp_l2Good_0 where
  ok := by kernel_rfl
  oke := by kernel_rfl
  okr := by kernel_rfl
  eta := fun _ => rfl
  step := fun _ _ => by kernel_rfl

theorem o_sp_l2Good : LoopsOK E_sp_l2Good tt Z_sp_l2Good O_sp_l2Good C_sp_l2Good := by
  have h : loopsOf C_sp_l2Good = [(0, B_sp_l2Good_0)] := by kernel_rfl
  unfold LoopsOK
  rw [h]
  exact List.forall_mem_cons.2 ⟨fun d h => (by have e : some (DL_sp_l2Good_0) = some d := h; cases e; exact l_sp_l2Good_0), fun _ h => absurd h List.not_mem_nil⟩

theorem ok_sp_l2Good : FnOK prog E_sp_l2Good tt 92 D_sp_l2Good K_sp_l2Good Z_sp_l2Good O_sp_l2Good f92 C_sp_l2Good (fun x => T_sp_l2Good x.1.1.1 x.1.1.2.1) (fun r => ((r, ()), ())) where
  at_ := func92
  name := by kernel_rfl
  body := by kernel_rfl
  res := by kernel_rfl
  ok := by kernel_rfl
  arity := fun _ => Nat.le_of_ble_eq_true (by kernel_rfl)
  pin := fun _ => by kernel_rfl
  chk := by kernel_rfl
  loops := o_sp_l2Good
  run := e_sp_l2Good
  F := fun _ => rfl
  emb := fun _ => rfl

theorem fd_sp_l2Good : FDok prog (92, D_sp_l2Good) := fn_ok mixed (env_ok (List.forall_mem_cons.2 ⟨fd_sp_l2Row, List.forall_mem_cons.2 ⟨fd_sp_l1In, fun _ h => absurd h List.not_mem_nil⟩⟩)) tabOK ok_sp_l2Good

theorem e_sp_l1Rising : ∀ x : D_sp_l1Rising.T, ((acode E_sp_l1Rising tt Z_sp_l1Rising (orcOf O_sp_l1Rising) C_sp_l1Rising (entry A_sp_l1Rising I_sp_l1Rising x)).map (keepRet tt K_sp_l1Rising)).ev = ((T_sp_l1Rising x.1.1 x.1.2.1 x.1.2.2.1).map fun r => some ((((r, ()), ())) : K_sp_l1Rising.T)).ev := fun _ => by kernel_rfl

noncomputable def B_sp_l1Rising_0 : Code := ((loopsOf C_sp_l1Rising).find? fun p => Nat.beq p.1 0).elim .skip (·.2)
theorem l_sp_l1Rising_0 : (DL_sp_l1Rising_0).OK E_sp_l1Rising tt Z_sp_l1Rising (orcOf O_sp_l1Rising) B_sp_l1Rising_0 where
  ok := by kernel_rfl
  oke := by kernel_rfl
  okr := by kernel_rfl
  eta := fun _ => rfl
  step := fun _ _ => by kernel_rfl

theorem o_sp_l1Rising : LoopsOK E_sp_l1Rising tt Z_sp_l1Rising O_sp_l1Rising C_sp_l1Rising := by
  have h : loopsOf C_sp_l1Rising = [(0, B_sp_l1Rising_0)] := by kernel_rfl
  unfold LoopsOK
  rw [h]
  exact List.forall_mem_cons.2 ⟨fun d h => (by have e : some (DL_sp_l1Rising_0) = some d := h; cases e; exact l_sp_l1Rising_0), fun _ h => absurd h List.not_mem_nil⟩

theorem ok_sp_l1Rising : FnOK prog E_sp_l1Rising tt 107 D_sp_l1Rising K_sp_l1Rising Z_sp_l1Rising O_sp_l1Rising f107 C_sp_l1Rising (fun x => T_sp_l1Rising x.1.1 x.1.2.1 x.1.2.2.1) (fun r => ((r, ()), ())) where
  at_ := func107
  name := by kernel_rfl
  body := by kernel_rfl
  res := by kernel_rfl
  ok := by kernel_rfl
  arity := fun _ => Nat.le_of_ble_eq_true (by kernel_rfl)
  pin := fun _ => by kernel_rfl
  chk := by kernel_rfl
  loops := o_sp_l1Rising
  run := e_sp_l1Rising
  F := fun _ => rfl
  emb := fun _ => rfl

theorem fd_sp_l1Rising : FDok prog (107, D_sp_l1Rising) := fn_ok mixed (env_ok (List.forall_mem_cons.2 ⟨fd_sp_l1In, fun _ h => absurd h List.not_mem_nil⟩)) tabOK ok_sp_l1Rising

theorem e_sp_l2Set : ∀ x : D_sp_l2Set.T, ((acode E_sp_l2Set tt Z_sp_l2Set (orcOf O_sp_l2Set) C_sp_l2Set (entry A_sp_l2Set I_sp_l2Set x)).map (keepRet tt K_sp_l2Set)).ev = ((T_sp_l2Set x.1.1.1 x.1.1.2.1 x.1.2.1).map fun r => some ((((r, ()), ())) : K_sp_l2Set.T)).ev := fun _ => by kernel_rfl

theorem o_sp_l2Set : LoopsOK E_sp_l2Set tt Z_sp_l2Set O_sp_l2Set C_sp_l2Set := by
  have h : loopsOf C_sp_l2Set = [] := by kernel_rfl
  unfold LoopsOK
  rw [h]
  exact fun _ h => absurd h List.not_mem_nil

theorem ok_sp_l2Set : FnOK prog E_sp_l2Set tt 93 D_sp_l2Set K_sp_l2Set Z_sp_l2Set O_sp_l2Set f93 C_sp_l2Set (fun x => T_sp_l2Set x.1.1.1 x.1.1.2.1 x.1.2.1) (fun r => ((r, ()), ())) where
  at_ := func93
  name := by kernel_rfl
  body := by kernel_rfl
  res := by kernel_rfl
  ok := by kernel_rfl
  arity := fun _ => Nat.le_of_ble_eq_true (by kernel_rfl)
  pin := fun _ => by kernel_rfl
  chk := by kernel_rfl
  loops := o_sp_l2Set
  run := e_sp_l2Set
  F := fun _ => rfl
  emb := fun _ => rfl

theorem fd_sp_l2Set : FDok prog (93, D_sp_l2Set) := fn_ok mixed (env_ok (List.forall_mem_cons.2 ⟨fd_sp_l1Rising, fun _ h => absurd h List.not_mem_nil⟩)) tabOK ok_sp_l2Set

theorem e_sp_l12Good : ∀ x : D_sp_l12Good.T, ((acode E_sp_l12Good tt Z_sp_l12Good (orcOf O_sp_l12Good) C_sp_l12Good (entry A_sp_l12Good I_sp_l12Good x)).map (keepRet tt K_sp_l12Good)).ev = ((T_sp_l12Good x.1.1.1 x.1.1.2.1 x.1.1.2.2.1 x.1.1.2.2.2.1).map fun r => some ((((r, ()), ())) : K_sp_l12Good.T)).ev := fun _ => by kernel_rfl

theorem o_sp_l12Good : LoopsOK E_sp_l12Good tt Z_sp_l12Good O_sp_l12Good C_sp_l12Good := by
  have h : loopsOf C_sp_l12Good = [] := by kernel_rfl
  unfold LoopsOK
  rw [h]
  exact fun _ h => absurd h List.not_mem_nil

theorem ok_sp_l12Good : FnOK prog E_sp_l12Good tt 72 D_sp_l12Good K_sp_l12Good Z_sp_l12Good O_sp_l12Good f72 C_sp_l12Good (fun x => T_sp_l12Good x.1.1.1 x.1.1.2.1 x.1.1.2.2.1 x.1.1.2.2.2.1) (fun r => ((r, ()), ())) where
  at_ := func72
  name := by kernel_rfl
  body := by kernel_rfl
  res := by kernel_rfl
  ok := by kernel_rfl
  arity := fun _ => Nat.le_of_ble_eq_true (by kernel_rfl)
  pin := fun _ => by kernel_rfl
  chk := by kernel_rfl
  loops := o_sp_l12Good
  run := e_sp_l12Good
  F := fun _ => rfl
  emb := fun _ => rfl

theorem fd_sp_l12Good : FDok prog (72, D_sp_l12Good) := fn_ok mixed (env_ok (List.forall_mem_cons.2 ⟨fd_sp_l2Good, List.forall_mem_cons.2 ⟨fd_sp_l2Set, List.forall_mem_cons.2 ⟨fd_sp_l1In, fun _ h => absurd h List.not_mem_nil⟩⟩⟩)) tabOK ok_sp_l12Good

theorem e_sp_IsValidConsole : ∀ x : D_sp_IsValidConsole.T, ((acode E_sp_IsValidConsole tt Z_sp_IsValidConsole (orcOf O_sp_IsValidConsole) C_sp_IsValidConsole (entry A_sp_IsValidConsole I_sp_IsValidConsole x)).map (keepRet tt K_sp_IsValidConsole)).ev = ((T_sp_IsValidConsole x.1.1.1 x.1.1.2.1 x.1.1.2.2.1 x.1.1.2.2.2.1 x.1.1.2.2.2.2.1 x.1.1.2.2.2.2.2.1 x.1.1.2.2.2.2.2.2.1).map fun r => some ((((r, ()), ())) : K_sp_IsValidConsole.T)).ev := fun _ => by kernel_rfl

theorem o_sp_IsValidConsole : LoopsOK E_sp_IsValidConsole tt Z_sp_IsValidConsole O_sp_IsValidConsole C_sp_IsValidConsole := by
  have h : loopsOf C_sp_IsValidConsole = [] := by kernel_rfl
  unfold LoopsOK
  rw [h]
  exact fun _ h => absurd h List.not_mem_nil

theorem ok_sp_IsValidConsole : FnOK prog E_sp_IsValidConsole tt 47 D_sp_IsValidConsole K_sp_IsValidConsole Z_sp_IsValidConsole O_sp_IsValidConsole f47 C_sp_IsValidConsole (fun x => T_sp_IsValidConsole x.1.1.1 x.1.1.2.1 x.1.1.2.2.1 x.1.1.2.2.2.1 x.1.1.2.2.2.2.1 x.1.1.2.2.2.2.2.1 x.1.1.2.2.2.2.2.2.1) (fun r => ((r, ()), ())) where
  at_ := func47
  name := by kernel_rfl
  body := by kernel_rfl
  res := by kernel_rfl
  ok := by kernel_rfl
  arity := fun _ => Nat.le_of_ble_eq_true (by kernel_rfl)
  pin := fun _ => by kernel_rfl
  chk := by kernel_rfl
  loops := o_sp_IsValidConsole
  run := e_sp_IsValidConsole
  F := fun _ => rfl
  emb := fun _ => rfl

theorem fd_sp_IsValidConsole : FDok prog (47, D_sp_IsValidConsole) := fn_ok mixed (env_ok (List.forall_mem_cons.2 ⟨fd_sp_l12Good, List.forall_mem_cons.2 ⟨fd_sp_l12Valid, fun _ h => absurd h List.not_mem_nil⟩⟩)) tabOK ok_sp_IsValidConsole

theorem e_slices_IndexFunc_Sint_int : ∀ x : D_slices_IndexFunc_Sint_int.T, ((acode E_slices_IndexFunc_Sint_int tt Z_slices_IndexFunc_Sint_int (orcOf O_slices_IndexFunc_Sint_int) C_slices_IndexFunc_Sint_int (entry A_slices_IndexFunc_Sint_int I_slices_IndexFunc_Sint_int x)).map (keepRet tt K_slices_IndexFunc_Sint_int)).ev = ((T_slices_IndexFunc_Sint_int x.1.1 x.1.2.1).map fun r => some ((((r, ()), ())) : K_slices_IndexFunc_Sint_int.T)).ev := fun _ => by kernel_rfl

noncomputable def B_slices_IndexFunc_Sint_int_0 : Code := ((loopsOf C_slices_IndexFunc_Sint_int).find? fun p => Nat.beq p.1 0).elim .skip (·.2)
theorem l_slices_IndexFunc_Sint_int_0 : (DL_slices_IndexFunc_Sint_int_0).OK E_slices_IndexFunc_Sint_int tt Z_slices_IndexFunc_Sint_int (orcOf O_slices_IndexFunc_Sint_int) B_slices_IndexFunc_Sint_int_0 where
  ok := by kernel_rfl
  oke := by kernel_rfl
  okr := by kernel_rfl
  eta := fun _ => rfl
  step := fun _ _ => by kernel_rfl

theorem o_slices_IndexFunc_Sint_int : LoopsOK E_slices_IndexFunc_Sint_int tt Z_slices_IndexFunc_Sint_int O_slices_IndexFunc_Sint_int C_slices_IndexFunc_Sint_int := by
  have h : loopsOf C_slices_IndexFunc_Sint_int = [(0, B_slices_IndexFunc_Sint_int_0)] := by kernel_rfl
  unfold LoopsOK
  rw [h]
  exact List.forall_mem_cons.2 ⟨fun d h => (by have e : some (DL_slices_IndexFunc_Sint_int_0) = some d := h; cases e; exact l_slices_IndexFunc_Sint_int_0), fun _ h => absurd h List.not_mem_nil⟩

theorem ok_slices_IndexFunc_Sint_int : FnOK prog E_slices_IndexFunc_Sint_int tt 130 D_slices_IndexFunc_Sint_int K_slices_IndexFunc_Sint_int Z_slices_IndexFunc_Sint_int O_slices_IndexFunc_Sint_int f130 C_slices_IndexFunc_Sint_int (fun x => T_slices_IndexFunc_Sint_int x.1.1 x.1.2.1) (fun r => ((r, ()), ())) where
  at_ := func130
  name := by kernel_rfl
  body := by kernel_rfl
  res := by kernel_rfl
  ok := by kernel_rfl
  arity := fun _ => Nat.le_of_ble_eq_true (by kernel_rfl)
  pin := fun _ => by kernel_rfl
  chk := by kernel_rfl
  loops := o_slices_IndexFunc_Sint_int
  run := e_slices_IndexFunc_Sint_int
  F := fun _ => rfl
  emb := fun _ => rfl

theorem fd_slices_IndexFunc_Sint_int : FDok prog (130, D_slices_IndexFunc_Sint_int) := fn_ok mixed (env_ok (fun _ h => absurd h List.not_mem_nil)) tabOK ok_slices_IndexFunc_Sint_int

theorem e_slices_ContainsFunc_Sint_int : ∀ x : D_slices_ContainsFunc_Sint_int.T, ((acode E_slices_ContainsFunc_Sint_int tt Z_slices_ContainsFunc_Sint_int (orcOf O_slices_ContainsFunc_Sint_int) C_slices_ContainsFunc_Sint_int (entry A_slices_ContainsFunc_Sint_int I_slices_ContainsFunc_Sint_int x)).map (keepRet tt K_slices_ContainsFunc_Sint_int)).ev = ((T_slices_ContainsFunc_Sint_int x.1.1 x.1.2.1).map fun r => some ((((r, ()), ())) : K_slices_ContainsFunc_Sint_int.T)).ev := fun _ => by kernel_rfl

theorem o_slices_ContainsFunc_Sint_int : LoopsOK E_slices_ContainsFunc_Sint_int tt Z_slices_ContainsFunc_Sint_int O_slices_ContainsFunc_Sint_int C_slices_ContainsFunc_Sint_int := by
  have h : loopsOf C_slices_ContainsFunc_Sint_int = [] := by kernel_rfl
  unfold LoopsOK
  rw [h]
  exact fun _ h => absurd h List.not_mem_nil

theorem ok_slices_ContainsFunc_Sint_int : FnOK prog E_slices_ContainsFunc_Sint_int tt 121 D_slices_ContainsFunc_Sint_int K_slices_ContainsFunc_Sint_int Z_slices_ContainsFunc_Sint_int O_slices_ContainsFunc_Sint_int f121 C_slices_ContainsFunc_Sint_int (fun x => T_slices_ContainsFunc_Sint_int x.1.1 x.1.2.1) (fun r => ((r, ()), ())) where
  at_ := func121
  name := by kernel_rfl
  body := by kernel_rfl
  res := by kernel_rfl
  ok := by kernel_rfl
  arity := fun _ => Nat.le_of_ble_eq_true (by kernel_rfl)
  pin := fun _ => by kernel_rfl
  chk := by kernel_rfl
  loops := o_slices_ContainsFunc_Sint_int
  run := e_slices_ContainsFunc_Sint_int
  F := fun _ => rfl
  emb := fun _ => rfl

theorem fd_slices_ContainsFunc_Sint_int : FDok prog (121, D_slices_ContainsFunc_Sint_int) := fn_ok mixed (env_ok (List.forall_mem_cons.2 ⟨fd_slices_IndexFunc_Sint_int, fun _ h => absurd h List.not_mem_nil⟩)) tabOK ok_slices_ContainsFunc_Sint_int

theorem e_im_areBetween_1 : ∀ x : D_im_areBetween_1.T, ((acode E_im_areBetween_1 tt Z_im_areBetween_1 (orcOf O_im_areBetween_1) C_im_areBetween_1 (entry A_im_areBetween_1 I_im_areBetween_1 x)).map (keepRet tt K_im_areBetween_1)).ev = ((T_im_areBetween_1 x.1.1 x.1.2.1.1 x.1.2.2.1.1).map fun r => some ((((r, ()), ())) : K_im_areBetween_1.T)).ev := fun _ => by kernel_rfl

theorem o_im_areBetween_1 : LoopsOK E_im_areBetween_1 tt Z_im_areBetween_1 O_im_areBetween_1 C_im_areBetween_1 := by
  have h : loopsOf C_im_areBetween_1 = [] := by kernel_rfl
  unfold LoopsOK
  rw [h]
  exact fun _ h => absurd h List.not_mem_nil

theorem ok_im_areBetween_1 : FnOK prog E_im_areBetween_1 tt 122 D_im_areBetween_1 K_im_areBetween_1 Z_im_areBetween_1 O_im_areBetween_1 f122 C_im_areBetween_1 (fun x => T_im_areBetween_1 x.1.1 x.1.2.1.1 x.1.2.2.1.1) (fun r => ((r, ()), ())) where
  at_ := func122
  name := by kernel_rfl
  body := by kernel_rfl
  res := by kernel_rfl
  ok := by kernel_rfl
  arity := fun _ => Nat.le_of_ble_eq_true (by kernel_rfl)
  pin := fun _ => by kernel_rfl
  chk := by kernel_rfl
  loops := o_im_areBetween_1
  run := e_im_areBetween_1
  F := fun _ => rfl
  emb := fun _ => rfl

theorem fd_im_areBetween_1 : FDok prog (122, D_im_areBetween_1) := fn_ok mixed (env_ok (List.forall_mem_cons.2 ⟨fd_im_between, fun _ h => absurd h List.not_mem_nil⟩)) tabOK ok_im_areBetween_1

theorem e_im_areBetween : ∀ x : D_im_areBetween.T, ((acode E_im_areBetween tt Z_im_areBetween (orcOf O_im_areBetween) C_im_areBetween (entry A_im_areBetween I_im_areBetween x)).map (keepRet tt K_im_areBetween)).ev = ((T_im_areBetween x.1.1 x.1.2.1 x.1.2.2.1).map fun r => some ((((r, ()), ())) : K_im_areBetween.T)).ev := fun _ => by kernel_rfl

theorem o_im_areBetween : LoopsOK E_im_areBetween tt Z_im_areBetween O_im_areBetween C_im_areBetween := by
  have h : loopsOf C_im_areBetween = [] := by kernel_rfl
  unfold LoopsOK
  rw [h]
  exact fun _ h => absurd h List.not_mem_nil

theorem ok_im_areBetween : FnOK prog E_im_areBetween tt 109 D_im_areBetween K_im_areBetween Z_im_areBetween O_im_areBetween f109 C_im_areBetween (fun x => T_im_areBetween x.1.1 x.1.2.1 x.1.2.2.1) (fun r => ((r, ()), ())) where
  at_ := func109
  name := by kernel_rfl
  body := by kernel_rfl
  res := by kernel_rfl
  ok := by kernel_rfl
  arity := fun _ => Nat.le_of_ble_eq_true (by kernel_rfl)
  pin := fun _ => by kernel_rfl
  chk := by kernel_rfl
  loops := o_im_areBetween
  run := e_im_areBetween
  F := fun _ => rfl
  emb := fun _ => rfl

theorem fd_im_areBetween : FDok prog (109, D_im_areBetween) := fn_ok mixed (env_ok (List.forall_mem_cons.2 ⟨fd_slices_ContainsFunc_Sint_int, List.forall_mem_cons.2 ⟨fd_im_areBetween_1, fun _ h => absurd h List.not_mem_nil⟩⟩)) tabOK ok_im_areBetween

theorem e_slices_IndexFunc_SSint_Sint : ∀ x : D_slices_IndexFunc_SSint_Sint.T, ((acode E_slices_IndexFunc_SSint_Sint tt Z_slices_IndexFunc_SSint_Sint (orcOf O_slices_IndexFunc_SSint_Sint) C_slices_IndexFunc_SSint_Sint (entry A_slices_IndexFunc_SSint_Sint I_slices_IndexFunc_SSint_Sint x)).map (keepRet tt K_slices_IndexFunc_SSint_Sint)).ev = ((T_slices_IndexFunc_SSint_Sint x.1.1 x.1.2.1).map fun r => some ((((r, ()), ())) : K_slices_IndexFunc_SSint_Sint.T)).ev := fun _ => by kernel_rfl

noncomputable def B_slices_IndexFunc_SSint_Sint_0 : Code := ((loopsOf C_slices_IndexFunc_SSint_Sint).find? fun p => Nat.beq p.1 0).elim .skip (·.2)
theorem l_slices_IndexFunc_SSint_Sint_0 : (DL_slices_IndexFunc_SSint_Sint_0).OK E_slices_IndexFunc_SSint_Sint tt Z_slices_IndexFunc_SSint_Sint (orcOf O_slices_IndexFunc_SSint_Sint) B_slices_IndexFunc_SSint_Sint_0 where
  ok := by kernel_rfl
  oke := by kernel_rfl
  okr := by kernel_rfl
  eta := fun _ => rfl
  step := fun _ _ => by kernel_rfl

theorem o_slices_IndexFunc_SSint_Sint : LoopsOK E_slices_IndexFunc_SSint_Sint tt Z_slices_IndexFunc_SSint_Sint O_slices_IndexFunc_SSint_Sint C_slices_IndexFunc_SSint_Sint := by
  have h : loopsOf C_slices_IndexFunc_SSint_Sint = [(0, B_slices_IndexFunc_SSint_Sint_0)] := by kernel_rfl
  unfold LoopsOK
  rw [h]
  exact List.forall_mem_cons.2 ⟨fun d h => (by have e : some (DL_slices_IndexFunc_SSint_Sint_0) = some d := h; cases e; exact l_slices_IndexFunc_SSint_Sint_0), fun _ h => absurd h List.not_mem_nil⟩

theorem ok_slices_IndexFunc_SSint_Sint : FnOK prog E_slices_IndexFunc_SSint_Sint tt 123 D_slices_IndexFunc_SSint_Sint K_slices_IndexFunc_SSint_Sint Z_slices_IndexFunc_SSint_Sint O_slices_IndexFunc_SSint_Sint f123 C_slices_IndexFunc_SSint_Sint (fun x => T_slices_IndexFunc_SSint_Sint x.1.1 x.1.2.1) (fun r => ((r, ()), ())) where
  at_ := func123
  name := by kernel_rfl
  body := by kernel_rfl
  res := by kernel_rfl
  ok := by kernel_rfl
  arity := fun _ => Nat.le_of_ble_eq_true (by kernel_rfl)
  pin := fun _ => by kernel_rfl
  chk := by kernel_rfl
  loops := o_slices_IndexFunc_SSint_Sint
  run := e_slices_IndexFunc_SSint_Sint
  F := fun _ => rfl
  emb := fun _ => rfl

theorem fd_slices_IndexFunc_SSint_Sint : FDok prog (123, D_slices_IndexFunc_SSint_Sint) := fn_ok mixed (env_ok (fun _ h => absurd h List.not_mem_nil)) tabOK ok_slices_IndexFunc_SSint_Sint

theorem e_slices_ContainsFunc_SSint_Sint : ∀ x : D_slices_ContainsFunc_SSint_Sint.T, ((acode E_slices_ContainsFunc_SSint_Sint tt Z_slices_ContainsFunc_SSint_Sint (orcOf O_slices_ContainsFunc_SSint_Sint) C_slices_ContainsFunc_SSint_Sint (entry A_slices_ContainsFunc_SSint_Sint I_slices_ContainsFunc_SSint_Sint x)).map (keepRet tt K_slices_ContainsFunc_SSint_Sint)).ev = ((T_slices_ContainsFunc_SSint_Sint x.1.1 x.1.2.1).map fun r => some ((((r, ()), ())) : K_slices_ContainsFunc_SSint_Sint.T)).ev := fun _ => by kernel_rfl

theorem o_slices_ContainsFunc_SSint_Sint : LoopsOK E_slices_ContainsFunc_SSint_Sint tt Z_slices_ContainsFunc_SSint_Sint O_slices_ContainsFunc_SSint_Sint C_slices_ContainsFunc_SSint_Sint := by
  have h : loopsOf C_slices_ContainsFunc_SSint_Sint = [] := by kernel_rfl
  unfold LoopsOK
  rw [h]
  exact fun _ h => absurd h List.not_mem_nil

theorem ok_slices_ContainsFunc_SSint_Sint : FnOK prog E_slices_ContainsFunc_SSint_Sint tt 110 D_slices_ContainsFunc_SSint_Sint K_slices_ContainsFunc_SSint_Sint Z_slices_ContainsFunc_SSint_Sint O_slices_ContainsFunc_SSint_Sint f110 C_slices_ContainsFunc_SSint_Sint (fun x => T_slices_ContainsFunc_SSint_Sint x.1.1 x.1.2.1) (fun r => ((r, ()), ())) where
  at_ := func110
  name := by kernel_rfl
  body := by kernel_rfl
  res := by kernel_rfl
  ok := by kernel_rfl
  arity := fun _ => Nat.le_of_ble_eq_true (by kernel_rfl)
  pin := fun _ => by kernel_rfl
  chk := by kernel_rfl
  loops := o_slices_ContainsFunc_SSint_Sint
  run := e_slices_ContainsFunc_SSint_Sint
  F := fun _ => rfl
  emb := fun _ => rfl

theorem fd_slices_ContainsFunc_SSint_Sint : FDok prog (110, D_slices_ContainsFunc_SSint_Sint) := fn_ok mixed (env_ok (List.forall_mem_cons.2 ⟨fd_slices_IndexFunc_SSint_Sint, fun _ h => absurd h List.not_mem_nil⟩)) tabOK ok_slices_ContainsFunc_SSint_Sint

theorem e_im_IsField_1 : ∀ x : D_im_IsField_1.T, ((acode E_im_IsField_1 tt Z_im_IsField_1 (orcOf O_im_IsField_1) C_im_IsField_1 (entry A_im_IsField_1 I_im_IsField_1 x)).map (keepRet tt K_im_IsField_1)).ev = ((T_im_IsField_1 x.1.1 x.1.2.1.1 x.1.2.1.2.1).map fun r => some ((((r, ()), ())) : K_im_IsField_1.T)).ev := fun _ => by kernel_rfl

theorem o_im_IsField_1 : LoopsOK E_im_IsField_1 tt Z_im_IsField_1 O_im_IsField_1 C_im_IsField_1 := by
  have h : loopsOf C_im_IsField_1 = [] := by kernel_rfl
  unfold LoopsOK
  rw [h]
  exact fun _ h => absurd h List.not_mem_nil

theorem ok_im_IsField_1 : FnOK prog E_im_IsField_1 tt 111 D_im_IsField_1 K_im_IsField_1 Z_im_IsField_1 O_im_IsField_1 f111 C_im_IsField_1 (fun x => T_im_IsField_1 x.1.1 x.1.2.1.1 x.1.2.1.2.1) (fun r => ((r, ()), ())) where
  at_ := func111
  name := by kernel_rfl
  body := by kernel_rfl
  res := by kernel_rfl
  ok := by kernel_rfl
  arity := fun _ => Nat.le_of_ble_eq_true (by kernel_rfl)
  pin := fun _ => by kernel_rfl
  chk := by kernel_rfl
  loops := o_im_IsField_1
  run := e_im_IsField_1
  F := fun _ => rfl
  emb := fun _ => rfl

theorem fd_im_IsField_1 : FDok prog (111, D_im_IsField_1) := fn_ok mixed (env_ok (List.forall_mem_cons.2 ⟨fd_im_areBetween, fun _ h => absurd h List.not_mem_nil⟩)) tabOK ok_im_IsField_1

theorem e_im_IsField : ∀ x : D_im_IsField.T, ((acode E_im_IsField tt Z_im_IsField (orcOf O_im_IsField) C_im_IsField (entry A_im_IsField I_im_IsField x)).map (keepRet tt K_im_IsField)).ev = ((T_im_IsField x.1.1.1 x.1.1.2.1).map fun r => some ((((r, ()), ())) : K_im_IsField.T)).ev := fun _ => by kernel_rfl

theorem o_im_IsField : LoopsOK E_im_IsField tt Z_im_IsField O_im_IsField C_im_IsField := by
  have h : loopsOf C_im_IsField = [] := by kernel_rfl
  unfold LoopsOK
  rw [h]
  exact fun _ h => absurd h List.not_mem_nil

theorem ok_im_IsField : FnOK prog E_im_IsField tt 96 D_im_IsField K_im_IsField Z_im_IsField O_im_IsField f96 C_im_IsField (fun x => T_im_IsField x.1.1.1 x.1.1.2.1) (fun r => ((r, ()), ())) where
  at_ := func96
  name := by kernel_rfl
  body := by kernel_rfl
  res := by kernel_rfl
  ok := by kernel_rfl
  arity := fun _ => Nat.le_of_ble_eq_true (by kernel_rfl)
  pin := fun _ => by kernel_rfl
  chk := by kernel_rfl
  loops := o_im_IsField
  run := e_im_IsField
  F := fun _ => rfl
  emb := fun _ => rfl

theorem fd_im_IsField : FDok prog (96, D_im_IsField) := fn_ok mixed (env_ok (List.forall_mem_cons.2 ⟨fd_im_between, List.forall_mem_cons.2 ⟨fd_im_areBetween, List.forall_mem_cons.2 ⟨fd_slices_ContainsFunc_SSint_Sint, List.forall_mem_cons.2 ⟨fd_im_IsField_1, fun _ h => absurd h List.not_mem_nil⟩⟩⟩⟩)) tabOK ok_im_IsField

theorem e_im_isRising : ∀ x : D_im_isRising.T, ((acode E_im_isRising tt Z_im_isRising (orcOf O_im_isRising) C_im_isRising (entry A_im_isRising I_im_isRising x)).map (keepRet tt K_im_isRising)).ev = ((T_im_isRising x.1.1 x.1.2.1).map fun r => some ((((r, ()), ())) : K_im_isRising.T)).ev := fun _ => by kernel_rfl

noncomputable def B_im_isRising_0 : Code := ((loopsOf C_im_isRising).find? fun p => Nat.beq p.1 0).elim .skip (·.2)
theorem l_im_isRising_0 : (DL_im_isRising_0).OK E_im_isRising tt Z_im_isRising (orcOf O_im_isRising) B_im_isRising_0 where
  ok := by kernel_rfl
  oke := by kernel_rfl
  okr := by kernel_rfl
  eta := fun _ => rfl
  step := fun _ _ => by kernel_rfl

theorem o_im_isRising : LoopsOK E_im_isRising tt Z_im_isRising O_im_isRising C_im_isRising := by
  have h : loopsOf C_im_isRising = [(0, B_im_isRising_0)] := by kernel_rfl
  unfold LoopsOK
  rw [h]
  exact List.forall_mem_cons.2 ⟨fun d h => (by have e : some (DL_im_isRising_0) = some d := h; cases e; exact l_im_isRising_0), fun _ h => absurd h List.not_mem_nil⟩

theorem ok_im_isRising : FnOK prog E_im_isRising tt 97 D_im_isRising K_im_isRising Z_im_isRising O_im_isRising f97 C_im_isRising (fun x => T_im_isRising x.1.1 x.1.2.1) (fun r => ((r, ()), ())) where
  at_ := func97
  name := by kernel_rfl
  body := by kernel_rfl
  res := by kernel_rfl
  ok := by kernel_rfl
  arity := fun _ => Nat.le_of_ble_eq_true (by kernel_rfl)
  pin := fun _ => by kernel_rfl
  chk := by kernel_rfl
  loops := o_im_isRising
  run := e_im_isRising
  F := fun _ => rfl
  emb := fun _ => rfl

theorem fd_im_isRising : FDok prog (97, D_im_isRising) := fn_ok mixed (env_ok (List.forall_mem_cons.2 ⟨fd_im_between, fun _ h => absurd h List.not_mem_nil⟩)) tabOK ok_im_isRising

theorem e_im_IsAtlas : ∀ x : D_im_IsAtlas.T, ((acode E_im_IsAtlas tt Z_im_IsAtlas (orcOf O_im_IsAtlas) C_im_IsAtlas (entry A_im_IsAtlas I_im_IsAtlas x)).map (keepRet tt K_im_IsAtlas)).ev = ((T_im_IsAtlas x.1.1.1 x.1.1.2.1 x.1.1.2.2.1 x.1.1.2.2.2.1).map fun r => some ((((r, ()), ())) : K_im_IsAtlas.T)).ev := fun _ => by kernel_rfl

theorem o_im_IsAtlas : LoopsOK E_im_IsAtlas tt Z_im_IsAtlas O_im_IsAtlas C_im_IsAtlas := by
  have h : loopsOf C_im_IsAtlas = [] := by kernel_rfl
  unfold LoopsOK
  rw [h]
  exact fun _ h => absurd h List.not_mem_nil

theorem ok_im_IsAtlas : FnOK prog E_im_IsAtlas tt 74 D_im_IsAtlas K_im_IsAtlas Z_im_IsAtlas O_im_IsAtlas f74 C_im_IsAtlas (fun x => T_im_IsAtlas x.1.1.1 x.1.1.2.1 x.1.1.2.2.1 x.1.1.2.2.2.1) (fun r => ((r, ()), ())) where
  at_ := func74
  name := by kernel_rfl
  body := by kernel_rfl
  res := by kernel_rfl
  ok := by kernel_rfl
  arity := fun _ => Nat.le_of_ble_eq_true (by kernel_rfl)
  pin := fun _ => by kernel_rfl
  chk := by kernel_rfl
  loops := o_im_IsAtlas
  run := e_im_IsAtlas
  F := fun _ => rfl
  emb := fun _ => rfl

theorem fd_im_IsAtlas : FDok prog (74, D_im_IsAtlas) := fn_ok mixed (env_ok (List.forall_mem_cons.2 ⟨fd_im_IsField, List.forall_mem_cons.2 ⟨fd_im_isRising, List.forall_mem_cons.2 ⟨fd_im_between, fun _ h => absurd h List.not_mem_nil⟩⟩⟩)) tabOK ok_im_IsAtlas

theorem e_im_IsValidConsole : ∀ x : D_im_IsValidConsole.T, ((acode E_im_IsValidConsole tt Z_im_IsValidConsole (orcOf O_im_IsValidConsole) C_im_IsValidConsole (entry A_im_IsValidConsole I_im_IsValidConsole x)).map (keepRet tt K_im_IsValidConsole)).ev = ((T_im_IsValidConsole x.1.1.1 x.1.1.2.1 x.1.1.2.2.1 x.1.1.2.2.2.1 x.1.1.2.2.2.2.1 x.1.1.2.2.2.2.2.1 x.1.1.2.2.2.2.2.2.1).map fun r => some ((((r, ()), ())) : K_im_IsValidConsole.T)).ev := fun _ => by kernel_rfl

theorem o_im_IsValidConsole : LoopsOK E_im_IsValidConsole tt Z_im_IsValidConsole O_im_IsValidConsole C_im_IsValidConsole := by
  have h : loopsOf C_im_IsValidConsole = [] := by kernel_rfl
  unfold LoopsOK
  rw [h]
  exact fun _ h => absurd h List.not_mem_nil

theorem ok_im_IsValidConsole : FnOK prog E_im_IsValidConsole tt 49 D_im_IsValidConsole K_im_IsValidConsole Z_im_IsValidConsole O_im_IsValidConsole f49 C_im_IsValidConsole (fun x => T_im_IsValidConsole x.1.1.1 x.1.1.2.1 x.1.1.2.2.1 x.1.1.2.2.2.1 x.1.1.2.2.2.2.1 x.1.1.2.2.2.2.2.1 x.1.1.2.2.2.2.2.2.1) (fun r => ((r, ()), ())) where
  at_ := func49
  name := by kernel_rfl
  body := by kernel_rfl
  res := by kernel_rfl
  ok := by kernel_rfl
  arity := fun _ => Nat.le_of_ble_eq_true (by kernel_rfl)
  pin := fun _ => by kernel_rfl
  chk := by kernel_rfl
  loops := o_im_IsValidConsole
  run := e_im_IsValidConsole
  F := fun _ => rfl
  emb := fun _ => rfl

theorem fd_im_IsValidConsole : FDok prog (49, D_im_IsValidConsole) := fn_ok mixed (env_ok (List.forall_mem_cons.2 ⟨fd_im_IsAtlas, List.forall_mem_cons.2 ⟨fd_im_IsValidLog, fun _ h => absurd h List.not_mem_nil⟩⟩)) tabOK ok_im_IsValidConsole

theorem e_lw_eqIntS : ∀ x : D_lw_eqIntS.T, ((acode E_lw_eqIntS tt Z_lw_eqIntS (orcOf O_lw_eqIntS) C_lw_eqIntS (entry A_lw_eqIntS I_lw_eqIntS x)).map (keepRet tt K_lw_eqIntS)).ev = ((T_lw_eqIntS x.1.1 x.1.2.1).map fun r => some ((((r, ()), ())) : K_lw_eqIntS.T)).ev := fun _ => by kernel_rfl

noncomputable def B_lw_eqIntS_0 : Code := ((loopsOf C_lw_eqIntS).find? fun p => Nat.beq p.1 0).elim .skip (·.2)
theorem l_lw_eqIntS_0 : (DL_lw_eqIntS_0).OK E_lw_eqIntS tt Z_lw_eqIntS (orcOf O_lw_eqIntS) B_lw_eqIntS_0 where
  ok := by kernel_rfl
  oke := by kernel_rfl
  okr := by kernel_rfl
  eta := fun _ => rfl
  step := fun _ _ => by kernel_rfl

theorem o_lw_eqIntS : LoopsOK E_lw_eqIntS tt Z_lw_eqIntS O_lw_eqIntS C_lw_eqIntS := by
  have h : loopsOf C_lw_eqIntS = [(0, B_lw_eqIntS_0)] := by kernel_rfl
  unfold LoopsOK
  rw [h]
  exact List.forall_mem_cons.2 ⟨fun d h => (by have e : some (DL_lw_eqIntS_0) = some d := h; cases e; exact l_lw_eqIntS_0), fun _ h => absurd h List.not_mem_nil⟩

theorem ok_lw_eqIntS : FnOK prog E_lw_eqIntS tt 99 D_lw_eqIntS K_lw_eqIntS Z_lw_eqIntS O_lw_eqIntS f99 C_lw_eqIntS (fun x => T_lw_eqIntS x.1.1 x.1.2.1) (fun r => ((r, ()), ())) where
  at_ := func99
  name := by kernel_rfl
  body := by kernel_rfl
  res := by kernel_rfl
  ok := by kernel_rfl
  arity := fun _ => Nat.le_of_ble_eq_true (by kernel_rfl)
  pin := fun _ => by kernel_rfl
  chk := by kernel_rfl
  loops := o_lw_eqIntS
  run := e_lw_eqIntS
  F := fun _ => rfl
  emb := fun _ => rfl

theorem fd_lw_eqIntS : FDok prog (99, D_lw_eqIntS) := fn_ok mixed (env_ok (fun _ h => absurd h List.not_mem_nil)) tabOK ok_lw_eqIntS

theorem e_lw_eqIntSS : ∀ x : D_lw_eqIntSS.T, ((acode E_lw_eqIntSS tt Z_lw_eqIntSS (orcOf O_lw_eqIntSS) C_lw_eqIntSS (entry A_lw_eqIntSS I_lw_eqIntSS x)).map (keepRet tt K_lw_eqIntSS)).ev = ((T_lw_eqIntSS x.1.1 x.1.2.1).map fun r => some ((((r, ()), ())) : K_lw_eqIntSS.T)).ev := fun _ => by kernel_rfl

noncomputable def B_lw_eqIntSS_0 : Code := ((loopsOf C_lw_eqIntSS).find? fun p => Nat.beq p.1 0).elim .skip (·.2)
theorem l_lw_eqIntSS_0 : (DL_lw_eqIntSS_0).OK E_lw_eqIntSS tt Z_lw_eqIntSS (orcOf O_lw_eqIntSS) B_lw_eqIntSS_0 where
  ok := by kernel_rfl
  oke := by kernel_rfl
  okr := by kernel_rfl
  eta := fun _ => rfl
  step := fun _ _ => by kernel_rfl

theorem o_lw_eqIntSS : LoopsOK E_lw_eqIntSS tt Z_lw_eqIntSS O_lw_eqIntSS C_lw_eqIntSS := by
  have h : loopsOf C_lw_eqIntSS = [(0, B_lw_eqIntSS_0)] := by kernel_rfl
  unfold LoopsOK
  rw [h]
  exact List.forall_mem_cons.2 ⟨fun d h => (by have e : some (DL_lw_eqIntSS_0) = some d := h; cases e; exact l_lw_eqIntSS_0), fun _ h => absurd h List.not_mem_nil⟩

theorem ok_lw_eqIntSS : FnOK prog E_lw_eqIntSS tt 112 D_lw_eqIntSS K_lw_eqIntSS Z_lw_eqIntSS O_lw_eqIntSS f112 C_lw_eqIntSS (fun x => T_lw_eqIntSS x.1.1 x.1.2.1) (fun r => ((r, ()), ())) where
  at_ := func112
  name := by kernel_rfl
  body := by kernel_rfl
  res := by kernel_rfl
  ok := by kernel_rfl
  arity := fun _ => Nat.le_of_ble_eq_true (by kernel_rfl)
  pin := fun _ => by kernel_rfl
  chk := by kernel_rfl
  loops := o_lw_eqIntSS
  run := e_lw_eqIntSS
  F := fun _ => rfl
  emb := fun _ => rfl

theorem fd_lw_eqIntSS : FDok prog (112, D_lw_eqIntSS) := fn_ok mixed (env_ok (List.forall_mem_cons.2 ⟨fd_lw_eqIntS, fun _ h => absurd h List.not_mem_nil⟩)) tabOK ok_lw_eqIntSS

theorem e_lw_eqField : ∀ x : D_lw_eqField.T, ((acode E_lw_eqField tt Z_lw_eqField (orcOf O_lw_eqField) C_lw_eqField (entry A_lw_eqField I_lw_eqField x)).map (keepRet tt K_lw_eqField)).ev = ((T_lw_eqField x.1.1.1 x.1.1.2.1 x.1.2.1.1 x.1.2.1.2.1).map fun r => some ((((r, ()), ())) : K_lw_eqField.T)).ev := fun _ => by kernel_rfl

theorem o_lw_eqField : LoopsOK E_lw_eqField tt Z_lw_eqField O_lw_eqField C_lw_eqField := by
  have h : loopsOf C_lw_eqField = [] := by kernel_rfl
  unfold LoopsOK
  rw [h]
  exact fun _ h => absurd h List.not_mem_nil

theorem ok_lw_eqField : FnOK prog E_lw_eqField tt 98 D_lw_eqField K_lw_eqField Z_lw_eqField O_lw_eqField f98 C_lw_eqField (fun x => T_lw_eqField x.1.1.1 x.1.1.2.1 x.1.2.1.1 x.1.2.1.2.1) (fun r => ((r, ()), ())) where
  at_ := func98
  name := by kernel_rfl
  body := by kernel_rfl
  res := by kernel_rfl
  ok := by kernel_rfl
  arity := fun _ => Nat.le_of_ble_eq_true (by kernel_rfl)
  pin := fun _ => by kernel_rfl
  chk := by kernel_rfl
  loops := o_lw_eqField
  run := e_lw_eqField
  F := fun _ => rfl
  emb := fun _ => rfl

theorem fd_lw_eqField : FDok prog (98, D_lw_eqField) := fn_ok mixed (env_ok (List.forall_mem_cons.2 ⟨fd_lw_eqIntS, List.forall_mem_cons.2 ⟨fd_lw_eqIntSS, fun _ h => absurd h List.not_mem_nil⟩⟩)) tabOK ok_lw_eqField

theorem e_lw_eqAtlas : ∀ x : D_lw_eqAtlas.T, ((acode E_lw_eqAtlas tt Z_lw_eqAtlas (orcOf O_lw_eqAtlas) C_lw_eqAtlas (entry A_lw_eqAtlas I_lw_eqAtlas x)).map (keepRet tt K_lw_eqAtlas)).ev = ((T_lw_eqAtlas x.1.1.1 x.1.1.2.1 x.1.1.2.2.1 x.1.1.2.2.2.1 x.1.2.1.1 x.1.2.1.2.1 x.1.2.1.2.2.1 x.1.2.1.2.2.2.1).map fun r => some ((((r, ()), ())) : K_lw_eqAtlas.T)).ev := fun _ => by kernel_rfl

theorem o_lw_eqAtlas : LoopsOK E_lw_eqAtlas tt Z_lw_eqAtlas O_lw_eqAtlas C_lw_eqAtlas := by
  have h : loopsOf C_lw_eqAtlas = [] := by kernel_rfl
  unfold LoopsOK
  rw [h]
  exact fun _ h => absurd h List.not_mem_nil

theorem ok_lw_eqAtlas : FnOK prog E_lw_eqAtlas tt 75 D_lw_eqAtlas K_lw_eqAtlas Z_lw_eqAtlas O_lw_eqAtlas f75 C_lw_eqAtlas (fun x => T_lw_eqAtlas x.1.1.1 x.1.1.2.1 x.1.1.2.2.1 x.1.1.2.2.2.1 x.1.2.1.1 x.1.2.1.2.1 x.1.2.1.2.2.1 x.1.2.1.2.2.2.1) (fun r => ((r, ()), ())) where
  at_ := func75
  name := by kernel_rfl
  body := by kernel_rfl
  res := by kernel_rfl
  ok := by kernel_rfl
  arity := fun _ => Nat.le_of_ble_eq_true (by kernel_rfl)
  pin := fun _ => by kernel_rfl
  chk := by kernel_rfl
  loops := o_lw_eqAtlas
  run := e_lw_eqAtlas
  F := fun _ => rfl
  emb := fun _ => rfl

theorem fd_lw_eqAtlas : FDok prog (75, D_lw_eqAtlas) := fn_ok mixed (env_ok (List.forall_mem_cons.2 ⟨fd_lw_eqField, List.forall_mem_cons.2 ⟨fd_lw_eqIntS, fun _ h => absurd h List.not_mem_nil⟩⟩)) tabOK ok_lw_eqAtlas

theorem e_lw_eqConsole : ∀ x : D_lw_eqConsole.T, ((acode E_lw_eqConsole tt Z_lw_eqConsole (orcOf O_lw_eqConsole) C_lw_eqConsole (entry A_lw_eqConsole I_lw_eqConsole x)).map (keepRet tt K_lw_eqConsole)).ev = ((T_lw_eqConsole x.1.1.1 x.1.1.2.1 x.1.1.2.2.1 x.1.1.2.2.2.1 x.1.1.2.2.2.2.1 x.1.1.2.2.2.2.2.1 x.1.1.2.2.2.2.2.2.1 x.1.2.1.1 x.1.2.1.2.1 x.1.2.1.2.2.1 x.1.2.1.2.2.2.1 x.1.2.1.2.2.2.2.1 x.1.2.1.2.2.2.2.2.1 x.1.2.1.2.2.2.2.2.2.1).map fun r => some ((((r, ()), ())) : K_lw_eqConsole.T)).ev := fun _ => by kernel_rfl

theorem o_lw_eqConsole : LoopsOK E_lw_eqConsole tt Z_lw_eqConsole O_lw_eqConsole C_lw_eqConsole := by
  have h : loopsOf C_lw_eqConsole = [] := by kernel_rfl
  unfold LoopsOK
  rw [h]
  exact fun _ h => absurd h List.not_mem_nil

theorem ok_lw_eqConsole : FnOK prog E_lw_eqConsole tt 50 D_lw_eqConsole K_lw_eqConsole Z_lw_eqConsole O_lw_eqConsole f50 C_lw_eqConsole (fun x => T_lw_eqConsole x.1.1.1 x.1.1.2.1 x.1.1.2.2.1 x.1.1.2.2.2.1 x.1.1.2.2.2.2.1 x.1.1.2.2.2.2.2.1 x.1.1.2.2.2.2.2.2.1 x.1.2.1.1 x.1.2.1.2.1 x.1.2.1.2.2.1 x.1.2.1.2.2.2.1 x.1.2.1.2.2.2.2.1 x.1.2.1.2.2.2.2.2.1 x.1.2.1.2.2.2.2.2.2.1) (fun r => ((r, ()), ())) where
  at_ := func50
  name := by kernel_rfl
  body := by kernel_rfl
  res := by kernel_rfl
  ok := by kernel_rfl
  arity := fun _ => Nat.le_of_ble_eq_true (by kernel_rfl)
  pin := fun _ => by kernel_rfl
  chk := by kernel_rfl
  loops := o_lw_eqConsole
  run := e_lw_eqConsole
  F := fun _ => rfl
  emb := fun _ => rfl

theorem fd_lw_eqConsole : FDok prog (50, D_lw_eqConsole) := fn_ok mixed (env_ok (List.forall_mem_cons.2 ⟨fd_lw_eqAtlas, List.forall_mem_cons.2 ⟨fd_lw_eqLog, fun _ h => absurd h List.not_mem_nil⟩⟩)) tabOK ok_lw_eqConsole

theorem e_lw_FnExactIsValidConsole : ∀ x : D_lw_FnExactIsValidConsole.T, ((acode E_lw_FnExactIsValidConsole tt Z_lw_FnExactIsValidConsole (orcOf O_lw_FnExactIsValidConsole) C_lw_FnExactIsValidConsole (entry A_lw_FnExactIsValidConsole I_lw_FnExactIsValidConsole x)).map (keepRet tt K_lw_FnExactIsValidConsole)).ev = ((T_lw_FnExactIsValidConsole x.1.1.1 x.1.1.2.1 x.1.1.2.2.1 x.1.1.2.2.2.1 x.1.1.2.2.2.2.1 x.1.1.2.2.2.2.2.1 x.1.1.2.2.2.2.2.2.1).map fun r => some ((((r, ()), ())) : K_lw_FnExactIsValidConsole.T)).ev := fun _ => by kernel_rfl

theorem o_lw_FnExactIsValidConsole : LoopsOK E_lw_FnExactIsValidConsole tt Z_lw_FnExactIsValidConsole O_lw_FnExactIsValidConsole C_lw_FnExactIsValidConsole := by
  have h : loopsOf C_lw_FnExactIsValidConsole = [] := by kernel_rfl
  unfold LoopsOK
  rw [h]
  exact fun _ h => absurd h List.not_mem_nil

theorem ok_lw_FnExactIsValidConsole : FnOK prog E_lw_FnExactIsValidConsole tt 12 D_lw_FnExactIsValidConsole K_lw_FnExactIsValidConsole Z_lw_FnExactIsValidConsole O_lw_FnExactIsValidConsole f12 C_lw_FnExactIsValidConsole (fun x => T_lw_FnExactIsValidConsole x.1.1.1 x.1.1.2.1 x.1.1.2.2.1 x.1.1.2.2.2.1 x.1.1.2.2.2.2.1 x.1.1.2.2.2.2.2.1 x.1.1.2.2.2.2.2.2.1) (fun r => ((r, ()), ())) where
  at_ := func12
  name := by kernel_rfl
  body := by kernel_rfl
  res := by kernel_rfl
  ok := by kernel_rfl
  arity := fun _ => Nat.le_of_ble_eq_true (by kernel_rfl)
  pin := fun _ => by kernel_rfl
  chk := by kernel_rfl
  loops := o_lw_FnExactIsValidConsole
  run := e_lw_FnExactIsValidConsole
  F := fun _ => rfl
  emb := fun _ => rfl

theorem fd_lw_FnExactIsValidConsole : FDok prog (12, D_lw_FnExactIsValidConsole) := fn_ok mixed (env_ok (List.forall_mem_cons.2 ⟨fd_lw_szConsole, List.forall_mem_cons.2 ⟨fd_lw_toConsole, List.forall_mem_cons.2 ⟨fd_sp_IsValidConsole, List.forall_mem_cons.2 ⟨fd_im_IsValidConsole, List.forall_mem_cons.2 ⟨fd_lw_eqConsole, fun _ h => absurd h List.not_mem_nil⟩⟩⟩⟩⟩)) tabOK ok_lw_FnExactIsValidConsole
end Go.Proofs.YtakbhfnndcnopaaDoor
