import Derived.Test.YtakbhfnndcnopaaDoorC1
namespace Go.Proofs.YtakbhfnndcnopaaDoor
open Go.Proofs.Tryd

theorem mixed : prog.follows .mixedOrders = true := by kernel_rfl
theorem tabOK : TabOK prog tt := tab_ok (by kernel_rfl)

theorem e_lw_szLog : ∀ x : D_lw_szLog.T, ((acode E_lw_szLog tt Z_lw_szLog (orcOf O_lw_szLog) C_lw_szLog (entry A_lw_szLog I_lw_szLog x)).map (keepRet tt K_lw_szLog)).ev = ((T_lw_szLog x.1.1.1 x.1.1.2.1 x.1.1.2.2.1 x.1.2.1).map fun r => some ((((r, ()), ())) : K_lw_szLog.T)).ev := fun _ => by kernel_rfl

theorem o_lw_szLog : LoopsOK E_lw_szLog tt Z_lw_szLog O_lw_szLog C_lw_szLog := by
  have h : loopsOf C_lw_szLog = [] := by kernel_rfl
  unfold LoopsOK
  rw [h]
  exact fun _ h => absurd h List.not_mem_nil

theorem ok_lw_szLog : FnOK prog E_lw_szLog tt 20 D_lw_szLog K_lw_szLog Z_lw_szLog O_lw_szLog f20 C_lw_szLog (fun x => T_lw_szLog x.1.1.1 x.1.1.2.1 x.1.1.2.2.1 x.1.2.1) (fun r => ((r, ()), ())) where
  at_ := func20
  name := by kernel_rfl
  body := by kernel_rfl
  res := by kernel_rfl
  ok := by kernel_rfl
  arity := fun _ => Nat.le_of_ble_eq_true (by kernel_rfl)
  pin := fun _ => by kernel_rfl
  chk := by kernel_rfl
  loops := o_lw_szLog
  run := e_lw_szLog
  F := fun _ => rfl
  emb := fun _ => rfl

theorem fd_lw_szLog : FDok prog (20, D_lw_szLog) := fn_ok mixed (env_ok (fun _ h => absurd h List.not_mem_nil)) tabOK ok_lw_szLog

theorem e_lw_toLog : ∀ x : D_lw_toLog.T, ((acode E_lw_toLog tt Z_lw_toLog (orcOf O_lw_toLog) C_lw_toLog (entry A_lw_toLog I_lw_toLog x)).map (keepRet tt K_lw_toLog)).ev = ((T_lw_toLog x.1.1.1 x.1.1.2.1 x.1.1.2.2.1).map fun r => some (((((r.1, (r.2.1, (r.2.2, ()))), ()), ())) : K_lw_toLog.T)).ev := fun _ => by kernel_rfl

theorem o_lw_toLog : LoopsOK E_lw_toLog tt Z_lw_toLog O_lw_toLog C_lw_toLog := by
  have h : loopsOf C_lw_toLog = [] := by kernel_rfl
  unfold LoopsOK
  rw [h]
  exact fun _ h => absurd h List.not_mem_nil

theorem ok_lw_toLog : FnOK prog E_lw_toLog tt 22 D_lw_toLog K_lw_toLog Z_lw_toLog O_lw_toLog f22 C_lw_toLog (fun x => T_lw_toLog x.1.1.1 x.1.1.2.1 x.1.1.2.2.1) (fun r => (((r.1, (r.2.1, (r.2.2, ()))), ()), ())) where
  at_ := func22
  name := by kernel_rfl
  body := by kernel_rfl
  res := by kernel_rfl
  ok := by kernel_rfl
  arity := fun _ => Nat.le_of_ble_eq_true (by kernel_rfl)
  pin := fun _ => by kernel_rfl
  chk := by kernel_rfl
  loops := o_lw_toLog
  run := e_lw_toLog
  F := fun _ => rfl
  emb := fun _ => rfl

theorem fd_lw_toLog : FDok prog (22, D_lw_toLog) := fn_ok mixed (env_ok (fun _ h => absurd h List.not_mem_nil)) tabOK ok_lw_toLog

theorem e_sp_l1Split : ∀ x : D_sp_l1Split.T, ((acode E_sp_l1Split tt Z_sp_l1Split (orcOf O_sp_l1Split) C_sp_l1Split (entry A_sp_l1Split I_sp_l1Split x)).map (keepRet tt K_sp_l1Split)).ev = ((T_sp_l1Split x.1.1 x.1.2.1).map fun r => some (((((), ()), (r, ()))) : K_sp_l1Split.T)).ev := fun _ => by kernel_rfl

noncomputable def B_sp_l1Split_0 : Code := ((loopsOf C_sp_l1Split).find? fun p => Nat.beq p.1 0).elim .skip (·.2)
theorem l_sp_l1Split_0 : (DL_sp_l1Split_0).OK E_sp_l1Split tt Z_sp_l1Split (orcOf O_sp_l1Split) B_sp_l1Split_0 where
  ok := by kernel_rfl
  oke := by kernel_rfl
  okr := by kernel_rfl
  eta := fun _ => rfl
  step := fun _ _ => by kernel_rfl

theorem o_sp_l1Split : LoopsOK E_sp_l1Split tt Z_sp_l1Split O_sp_l1Split C_sp_l1Split := by
  have h : loopsOf C_sp_l1Split = [(0, B_sp_l1Split_0)] := by kernel_rfl
  unfold LoopsOK
  rw [h]
  exact List.forall_mem_cons.2 ⟨fun d h => (by have e : some (DL_sp_l1Split_0) = some d := h; cases e; exact l_sp_l1Split_0), fun _ h => absurd h List.not_mem_nil⟩

theorem ok_sp_l1Split : FnOK prog E_sp_l1Split tt 82 D_sp_l1Split K_sp_l1Split Z_sp_l1Split O_sp_l1Split f82 C_sp_l1Split (fun x => T_sp_l1Split x.1.1 x.1.2.1) (fun r => (((), ()), (r, ()))) where
  at_ := func82
  name := by kernel_rfl
  body := by kernel_rfl
  res := by kernel_rfl
  ok := by kernel_rfl
  arity := fun _ => Nat.le_of_ble_eq_true (by kernel_rfl)
  pin := fun _ => by kernel_rfl
  chk := by kernel_rfl
  loops := o_sp_l1Split
  run := e_sp_l1Split
  F := fun _ => rfl
  emb := fun _ => rfl

theorem fd_sp_l1Split : FDok prog (82, D_sp_l1Split) := fn_ok mixed (env_ok (fun _ h => absurd h List.not_mem_nil)) tabOK ok_sp_l1Split

theorem e_sp_l1Num (rec_ : (Int) → Option (List UInt8)) : ∀ x : (Dr_sp_l1Num rec_).T, ((acode (E_sp_l1Num rec_) tt Z_sp_l1Num (orcOf (O_sp_l1Num rec_)) C_sp_l1Num (entry A_sp_l1Num I_sp_l1Num x)).map (keepRet tt K_sp_l1Num)).ev = ((T_sp_l1Num rec_ x.1.1).map fun r => some ((((r, ()), ())) : K_sp_l1Num.T)).ev := fun _ => by kernel_rfl

theorem o_sp_l1Num (rec_ : (Int) → Option (List UInt8)) : LoopsOK (E_sp_l1Num rec_) tt Z_sp_l1Num (O_sp_l1Num rec_) C_sp_l1Num := by
  have h : loopsOf C_sp_l1Num = [] := by kernel_rfl
  unfold LoopsOK
  rw [h]
  exact fun _ h => absurd h List.not_mem_nil

theorem ok_sp_l1Num (n : Nat) : FnOK prog (E_sp_l1Num (F_sp_l1Num n)) tt 79 (D_sp_l1Num (n + 1)) K_sp_l1Num Z_sp_l1Num (O_sp_l1Num (F_sp_l1Num n)) f79 C_sp_l1Num (fun x => T_sp_l1Num (F_sp_l1Num n) x.1.1) (fun r => ((r, ()), ())) where
  at_ := func79
  name := by kernel_rfl
  body := by kernel_rfl
  res := by kernel_rfl
  ok := by kernel_rfl
  arity := fun _ => Nat.le_of_ble_eq_true (by kernel_rfl)
  pin := fun _ => by kernel_rfl
  chk := by kernel_rfl
  loops := o_sp_l1Num (F_sp_l1Num n)
  run := e_sp_l1Num (F_sp_l1Num n)
  F := fun _ => rfl
  emb := fun _ => rfl

theorem fd_sp_l1Num : ∀ n : Nat, FDok prog (79, D_sp_l1Num n)
  | 0 => fun _ _ h => nomatch h
  | n + 1 => fn_ok mixed (env_ok (List.forall_mem_cons.2 ⟨fd_sp_l1Num n, fun _ h => absurd h List.not_mem_nil⟩)) tabOK (ok_sp_l1Num n)

theorem e_sp_l1In : ∀ x : D_sp_l1In.T, ((acode E_sp_l1In tt Z_sp_l1In (orcOf O_sp_l1In) C_sp_l1In (entry A_sp_l1In I_sp_l1In x)).map (keepRet tt K_sp_l1In)).ev = ((T_sp_l1In x.1.1 x.1.2.1 x.1.2.2.1).map fun r => some ((((r, ()), ())) : K_sp_l1In.T)).ev := fun _ => by kernel_rfl

theorem o_sp_l1In : LoopsOK E_sp_l1In tt Z_sp_l1In O_sp_l1In C_sp_l1In := by
  have h : loopsOf C_sp_l1In = [] := by kernel_rfl
  unfold LoopsOK
  rw [h]
  exact fun _ h => absurd h List.not_mem_nil

theorem ok_sp_l1In : FnOK prog E_sp_l1In tt 51 D_sp_l1In K_sp_l1In Z_sp_l1In O_sp_l1In f51 C_sp_l1In (fun x => T_sp_l1In x.1.1 x.1.2.1 x.1.2.2.1) (fun r => ((r, ()), ())) where
  at_ := func51
  name := by kernel_rfl
  body := by kernel_rfl
  res := by kernel_rfl
  ok := by kernel_rfl
  arity := fun _ => Nat.le_of_ble_eq_true (by kernel_rfl)
  pin := fun _ => by kernel_rfl
  chk := by kernel_rfl
  loops := o_sp_l1In
  run := e_sp_l1In
  F := fun _ => rfl
  emb := fun _ => rfl

theorem fd_sp_l1In : FDok prog (51, D_sp_l1In) := fn_ok mixed (env_ok (fun _ h => absurd h List.not_mem_nil)) tabOK ok_sp_l1In

theorem e_sp_l12Bytes : ∀ x : D_sp_l12Bytes.T, ((acode E_sp_l12Bytes tt Z_sp_l12Bytes (orcOf O_sp_l12Bytes) C_sp_l12Bytes (entry A_sp_l12Bytes I_sp_l12Bytes x)).map (keepRet tt K_sp_l12Bytes)).ev = ((T_sp_l12Bytes x.1.1 x.1.2.1).map fun r => some ((((r, ()), ())) : K_sp_l12Bytes.T)).ev := fun _ => by kernel_rfl

noncomputable def B_sp_l12Bytes_0 : Code := ((loopsOf C_sp_l12Bytes).find? fun p => Nat.beq p.1 0).elim .skip (·.2)
theorem l_sp_l12Bytes_0 : (DL_sp_l12Bytes_0).OK E_sp_l12Bytes tt Z_sp_l12Bytes (orcOf O_sp_l12Bytes) B_sp_l12Bytes_0 where
  ok := by kernel_rfl
  oke := by kernel_rfl
  okr := by kernel_rfl
  eta := fun _ => rfl
  step := fun _ _ => by kernel_rfl

theorem o_sp_l12Bytes : LoopsOK E_sp_l12Bytes tt Z_sp_l12Bytes O_sp_l12Bytes C_sp_l12Bytes := by
  have h : loopsOf C_sp_l12Bytes = [(0, B_sp_l12Bytes_0)] := by kernel_rfl
  unfold LoopsOK
  rw [h]
  exact List.forall_mem_cons.2 ⟨fun d h => (by have e : some (DL_sp_l12Bytes_0) = some d := h; cases e; exact l_sp_l12Bytes_0), fun _ h => absurd h List.not_mem_nil⟩

theorem ok_sp_l12Bytes : FnOK prog E_sp_l12Bytes tt 76 D_sp_l12Bytes K_sp_l12Bytes Z_sp_l12Bytes O_sp_l12Bytes f76 C_sp_l12Bytes (fun x => T_sp_l12Bytes x.1.1 x.1.2.1) (fun r => ((r, ()), ())) where
  at_ := func76
  name := by kernel_rfl
  body := by kernel_rfl
  res := by kernel_rfl
  ok := by kernel_rfl
  arity := fun _ => Nat.le_of_ble_eq_true (by kernel_rfl)
  pin := fun _ => by kernel_rfl
  chk := by kernel_rfl
  loops := o_sp_l12Bytes
  run := e_sp_l12Bytes
  F := fun _ => rfl
  emb := fun _ => rfl

theorem fd_sp_l12Bytes : FDok prog (76, D_sp_l12Bytes) := fn_ok mixed (env_ok (List.forall_mem_cons.2 ⟨fd_sp_l1In, fun _ h => absurd h List.not_mem_nil⟩)) tabOK ok_sp_l12Bytes

theorem e_sp_l1Stands : ∀ x : D_sp_l1Stands.T, ((acode E_sp_l1Stands tt Z_sp_l1Stands (orcOf O_sp_l1Stands) C_sp_l1Stands (entry A_sp_l1Stands I_sp_l1Stands x)).map (keepRet tt K_sp_l1Stands)).ev = ((T_sp_l1Stands x.1.1 x.1.2.1).map fun r => some ((((r, ()), ())) : K_sp_l1Stands.T)).ev := fun _ => by kernel_rfl

noncomputable def B_sp_l1Stands_0 : Code := ((loopsOf C_sp_l1Stands).find? fun p => Nat.beq p.1 0).elim .skip (·.2)
theorem l_sp_l1Stands_0 : (DL_sp_l1Stands_0).OK E_sp_l1Stands tt Z_sp_l1Stands (orcOf O_sp_l1Stands) B_sp_l1Stands_0 where
  ok := by kernel_rfl
  oke := by kernel_rfl
  okr := by kernel_rfl
  eta := fun _ => rfl
  step := fun _ _ => by kernel_rfl

theorem o_sp_l1Stands : LoopsOK E_sp_l1Stands tt Z_sp_l1Stands O_sp_l1Stands C_sp_l1Stands := by
  have h : loopsOf C_sp_l1Stands = [(0, B_sp_l1Stands_0)] := by kernel_rfl
  unfold LoopsOK
  rw [h]
  exact List.forall_mem_cons.2 ⟨fun d h => (by have e : some (DL_sp_l1Stands_0) = some d := h; cases e; exact l_sp_l1Stands_0), fun _ h => absurd h List.not_mem_nil⟩

theorem ok_sp_l1Stands : FnOK prog E_sp_l1Stands tt 77 D_sp_l1Stands K_sp_l1Stands Z_sp_l1Stands O_sp_l1Stands f77 C_sp_l1Stands (fun x => T_sp_l1Stands x.1.1 x.1.2.1) (fun r => ((r, ()), ())) where
  at_ := func77
  name := by kernel_rfl
  body := by kernel_rfl
  res := by kernel_rfl
  ok := by kernel_rfl
  arity := fun _ => Nat.le_of_ble_eq_true (by kernel_rfl)
  pin := fun _ => by kernel_rfl
  chk := by kernel_rfl
  loops := o_sp_l1Stands
  run := e_sp_l1Stands
  F := fun _ => rfl
  emb := fun _ => rfl

theorem fd_sp_l1Stands : FDok prog (77, D_sp_l1Stands) := fn_ok mixed (env_ok (fun _ h => absurd h List.not_mem_nil)) tabOK ok_sp_l1Stands

theorem e_sp_l12Record : ∀ x : D_sp_l12Record.T, ((acode E_sp_l12Record tt Z_sp_l12Record (orcOf O_sp_l12Record) C_sp_l12Record (entry A_sp_l12Record I_sp_l12Record x)).map (keepRet tt K_sp_l12Record)).ev = ((T_sp_l12Record x.1.1.1 x.1.1.2.1).map fun r => some ((((r, ()), ())) : K_sp_l12Record.T)).ev := fun _ => by kernel_rfl

theorem o_sp_l12Record : LoopsOK E_sp_l12Record tt Z_sp_l12Record O_sp_l12Record C_sp_l12Record := by
  have h : loopsOf C_sp_l12Record = [] := by kernel_rfl
  unfold LoopsOK
  rw [h]
  exact fun _ h => absurd h List.not_mem_nil

theorem ok_sp_l12Record : FnOK prog E_sp_l12Record tt 52 D_sp_l12Record K_sp_l12Record Z_sp_l12Record O_sp_l12Record f52 C_sp_l12Record (fun x => T_sp_l12Record x.1.1.1 x.1.1.2.1) (fun r => ((r, ()), ())) where
  at_ := func52
  name := by kernel_rfl
  body := by kernel_rfl
  res := by kernel_rfl
  ok := by kernel_rfl
  arity := fun _ => Nat.le_of_ble_eq_true (by kernel_rfl)
  pin := fun _ => by kernel_rfl
  chk := by kernel_rfl
  loops := o_sp_l12Record
  run := e_sp_l12Record
  F := fun _ => rfl
  emb := fun _ => rfl

theorem fd_sp_l12Record : FDok prog (52, D_sp_l12Record) := fn_ok mixed (env_ok (List.forall_mem_cons.2 ⟨fd_sp_l12Bytes, List.forall_mem_cons.2 ⟨fd_sp_l1Stands, fun _ h => absurd h List.not_mem_nil⟩⟩)) tabOK ok_sp_l12Record

theorem e_sp_l1Sum : ∀ x : D_sp_l1Sum.T, ((acode E_sp_l1Sum tt Z_sp_l1Sum (orcOf O_sp_l1Sum) C_sp_l1Sum (entry A_sp_l1Sum I_sp_l1Sum x)).map (keepRet tt K_sp_l1Sum)).ev = ((T_sp_l1Sum x.1.1).map fun r => some ((((r, ()), ())) : K_sp_l1Sum.T)).ev := fun _ => by kernel_rfl

noncomputable def B_sp_l1Sum_0 : Code := ((loopsOf C_sp_l1Sum).find? fun p => Nat.beq p.1 0).elim .skip (·.2)
theorem l_sp_l1Sum_0 : (DL_sp_l1Sum_0).OK E_sp_l1Sum tt Z_sp_l1Sum (orcOf O_sp_l1Sum) B_sp_l1Sum_0 where
  ok := by kernel_rfl
  oke := by kernel_rfl
  okr := by kernel_rfl
  eta := fun _ => rfl
  step := fun _ _ => by kernel_rfl

theorem o_sp_l1Sum : LoopsOK E_sp_l1Sum tt Z_sp_l1Sum O_sp_l1Sum C_sp_l1Sum := by
  have h : loopsOf C_sp_l1Sum = [(0, B_sp_l1Sum_0)] := by kernel_rfl
  unfold LoopsOK
  rw [h]
  exact List.forall_mem_cons.2 ⟨fun d h => (by have e : some (DL_sp_l1Sum_0) = some d := h; cases e; exact l_sp_l1Sum_0), fun _ h => absurd h List.not_mem_nil⟩

theorem ok_sp_l1Sum : FnOK prog E_sp_l1Sum tt 100 D_sp_l1Sum K_sp_l1Sum Z_sp_l1Sum O_sp_l1Sum f100 C_sp_l1Sum (fun x => T_sp_l1Sum x.1.1) (fun r => ((r, ()), ())) where
  at_ := func100
  name := by kernel_rfl
  body := by kernel_rfl
  res := by kernel_rfl
  ok := by kernel_rfl
  arity := fun _ => Nat.le_of_ble_eq_true (by kernel_rfl)
  pin := fun _ => by kernel_rfl
  chk := by kernel_rfl
  loops := o_sp_l1Sum
  run := e_sp_l1Sum
  F := fun _ => rfl
  emb := fun _ => rfl

theorem fd_sp_l1Sum : FDok prog (100, D_sp_l1Sum) := fn_ok mixed (env_ok (fun _ h => absurd h List.not_mem_nil)) tabOK ok_sp_l1Sum

theorem e_sp_l1Seal : ∀ x : D_sp_l1Seal.T, ((acode E_sp_l1Seal tt Z_sp_l1Seal (orcOf O_sp_l1Seal) C_sp_l1Seal (entry A_sp_l1Seal I_sp_l1Seal x)).map (keepRet tt K_sp_l1Seal)).ev = ((T_sp_l1Seal x.1.1).map fun r => some ((((r, ()), ())) : K_sp_l1Seal.T)).ev := fun _ => by kernel_rfl

theorem o_sp_l1Seal : LoopsOK E_sp_l1Seal tt Z_sp_l1Seal O_sp_l1Seal C_sp_l1Seal := by
  have h : loopsOf C_sp_l1Seal = [] := by kernel_rfl
  unfold LoopsOK
  rw [h]
  exact fun _ h => absurd h List.not_mem_nil

theorem ok_sp_l1Seal : FnOK prog E_sp_l1Seal tt 78 D_sp_l1Seal K_sp_l1Seal Z_sp_l1Seal O_sp_l1Seal f78 C_sp_l1Seal (fun x => T_sp_l1Seal x.1.1) (fun r => ((r, ()), ())) where
  at_ := func78
  name := by kernel_rfl
  body := by kernel_rfl
  res := by kernel_rfl
  ok := by kernel_rfl
  arity := fun _ => Nat.le_of_ble_eq_true (by kernel_rfl)
  pin := fun _ => by kernel_rfl
  chk := by kernel_rfl
  loops := o_sp_l1Seal
  run := e_sp_l1Seal
  F := fun _ => rfl
  emb := fun _ => rfl

theorem fd_sp_l1Seal : FDok prog (78, D_sp_l1Seal) := fn_ok mixed (env_ok (List.forall_mem_cons.2 ⟨fd_sp_l1Sum, List.forall_mem_cons.2 ⟨fd_sp_l1Num 1000000, fun _ h => absurd h List.not_mem_nil⟩⟩)) tabOK ok_sp_l1Seal

theorem e_sp_l12Line : ∀ x : D_sp_l12Line.T, ((acode E_sp_l12Line tt Z_sp_l12Line (orcOf O_sp_l12Line) C_sp_l12Line (entry A_sp_l12Line I_sp_l12Line x)).map (keepRet tt K_sp_l12Line)).ev = ((T_sp_l12Line x.1.1 x.1.2.1.1 x.1.2.1.2.1).map fun r => some ((((r, ()), ())) : K_sp_l12Line.T)).ev := fun _ => by kernel_rfl

theorem o_sp_l12Line : LoopsOK E_sp_l12Line tt Z_sp_l12Line O_sp_l12Line C_sp_l12Line := by
  have h : loopsOf C_sp_l12Line = [] := by kernel_rfl
  unfold LoopsOK
  rw [h]
  exact fun _ h => absurd h List.not_mem_nil

theorem ok_sp_l12Line : FnOK prog E_sp_l12Line tt 53 D_sp_l12Line K_sp_l12Line Z_sp_l12Line O_sp_l12Line f53 C_sp_l12Line (fun x => T_sp_l12Line x.1.1 x.1.2.1.1 x.1.2.1.2.1) (fun r => ((r, ()), ())) where
  at_ := func53
  name := by kernel_rfl
  body := by kernel_rfl
  res := by kernel_rfl
  ok := by kernel_rfl
  arity := fun _ => Nat.le_of_ble_eq_true (by kernel_rfl)
  pin := fun _ => by kernel_rfl
  chk := by kernel_rfl
  loops := o_sp_l12Line
  run := e_sp_l12Line
  F := fun _ => rfl
  emb := fun _ => rfl

theorem fd_sp_l12Line : FDok prog (53, D_sp_l12Line) := fn_ok mixed (env_ok (List.forall_mem_cons.2 ⟨fd_sp_l1Num 1000000, List.forall_mem_cons.2 ⟨fd_sp_l1Seal, fun _ h => absurd h List.not_mem_nil⟩⟩)) tabOK ok_sp_l12Line

theorem e_sp_l12Decode : ∀ x : D_sp_l12Decode.T, ((acode E_sp_l12Decode tt Z_sp_l12Decode (orcOf O_sp_l12Decode) C_sp_l12Decode (entry A_sp_l12Decode I_sp_l12Decode x)).map (keepRet tt K_sp_l12Decode)).ev = ((T_sp_l12Decode x.1.1 x.1.2.1).map fun r => some (((((r.1, (r.2.1, ())), (r.2.2, ())), ())) : K_sp_l12Decode.T)).ev := fun _ => by kernel_rfl

theorem o_sp_l12Decode : LoopsOK E_sp_l12Decode tt Z_sp_l12Decode O_sp_l12Decode C_sp_l12Decode := by
  have h : loopsOf C_sp_l12Decode = [] := by kernel_rfl
  unfold LoopsOK
  rw [h]
  exact fun _ h => absurd h List.not_mem_nil

theorem ok_sp_l12Decode : FnOK prog E_sp_l12Decode tt 83 D_sp_l12Decode K_sp_l12Decode Z_sp_l12Decode O_sp_l12Decode f83 C_sp_l12Decode (fun x => T_sp_l12Decode x.1.1 x.1.2.1) (fun r => (((r.1, (r.2.1, ())), (r.2.2, ())), ())) where
  at_ := func83
  name := by kernel_rfl
  body := by kernel_rfl
  res := by kernel_rfl
  ok := by kernel_rfl
  arity := fun _ => Nat.le_of_ble_eq_true (by kernel_rfl)
  pin := fun _ => by kernel_rfl
  chk := by kernel_rfl
  loops := o_sp_l12Decode
  run := e_sp_l12Decode
  F := fun _ => rfl
  emb := fun _ => rfl

theorem fd_sp_l12Decode : FDok prog (83, D_sp_l12Decode) := fn_ok mixed (env_ok (List.forall_mem_cons.2 ⟨fd_sp_l1Num 1000000, List.forall_mem_cons.2 ⟨fd_sp_l1Split, List.forall_mem_cons.2 ⟨fd_sp_l12Record, List.forall_mem_cons.2 ⟨fd_sp_l12Line, fun _ h => absurd h List.not_mem_nil⟩⟩⟩⟩)) tabOK ok_sp_l12Decode

theorem e_sp_l12Open : ∀ x : D_sp_l12Open.T, ((acode E_sp_l12Open tt Z_sp_l12Open (orcOf O_sp_l12Open) C_sp_l12Open (entry A_sp_l12Open I_sp_l12Open x)).map (keepRet tt K_sp_l12Open)).ev = ((T_sp_l12Open x.1.1).map fun r => some (((((), (r.1, ())), (r.2, ()))) : K_sp_l12Open.T)).ev := fun _ => by kernel_rfl

noncomputable def B_sp_l12Open_0 : Code := ((loopsOf C_sp_l12Open).find? fun p => Nat.beq p.1 0).elim .skip (·.2)
theorem l_sp_l12Open_0 : (DL_sp_l12Open_0).OK E_sp_l12Open tt Z_sp_l12Open (orcOf O_sp_l12Open) B_sp_l12Open_0 where
  ok := by kernel_rfl
  oke := by kernel_rfl
  okr := by kernel_rfl
  eta := fun _ => rfl
  step := fun _ _ => by kernel_rfl

theorem o_sp_l12Open : LoopsOK E_sp_l12Open tt Z_sp_l12Open O_sp_l12Open C_sp_l12Open := by
  have h : loopsOf C_sp_l12Open = [(0, B_sp_l12Open_0)] := by kernel_rfl
  unfold LoopsOK
  rw [h]
  exact List.forall_mem_cons.2 ⟨fun d h => (by have e : some (DL_sp_l12Open_0) = some d := h; cases e; exact l_sp_l12Open_0), fun _ h => absurd h List.not_mem_nil⟩

theorem ok_sp_l12Open : FnOK prog E_sp_l12Open tt 57 D_sp_l12Open K_sp_l12Open Z_sp_l12Open O_sp_l12Open f57 C_sp_l12Open (fun x => T_sp_l12Open x.1.1) (fun r => (((), (r.1, ())), (r.2, ()))) where
  at_ := func57
  name := by kernel_rfl
  body := by kernel_rfl
  res := by kernel_rfl
  ok := by kernel_rfl
  arity := fun _ => Nat.le_of_ble_eq_true (by kernel_rfl)
  pin := fun _ => by kernel_rfl
  chk := by kernel_rfl
  loops := o_sp_l12Open
  run := e_sp_l12Open
  F := fun _ => rfl
  emb := fun _ => rfl

theorem fd_sp_l12Open : FDok prog (57, D_sp_l12Open) := fn_ok mixed (env_ok (List.forall_mem_cons.2 ⟨fd_sp_l1Split, List.forall_mem_cons.2 ⟨fd_sp_l12Decode, fun _ h => absurd h List.not_mem_nil⟩⟩)) tabOK ok_sp_l12Open

theorem e_sp_l12Valid : ∀ x : D_sp_l12Valid.T, ((acode E_sp_l12Valid tt Z_sp_l12Valid (orcOf O_sp_l12Valid) C_sp_l12Valid (entry A_sp_l12Valid I_sp_l12Valid x)).map (keepRet tt K_sp_l12Valid)).ev = ((T_sp_l12Valid x.1.1.1 x.1.1.2.1 x.1.1.2.2.1).map fun r => some ((((r, ()), ())) : K_sp_l12Valid.T)).ev := fun _ => by kernel_rfl

theorem o_sp_l12Valid : LoopsOK E_sp_l12Valid tt Z_sp_l12Valid O_sp_l12Valid C_sp_l12Valid := by
  have h : loopsOf C_sp_l12Valid = [] := by kernel_rfl
  unfold LoopsOK
  rw [h]
  exact fun _ h => absurd h List.not_mem_nil

theorem ok_sp_l12Valid : FnOK prog E_sp_l12Valid tt 59 D_sp_l12Valid K_sp_l12Valid Z_sp_l12Valid O_sp_l12Valid f59 C_sp_l12Valid (fun x => T_sp_l12Valid x.1.1.1 x.1.1.2.1 x.1.1.2.2.1) (fun r => ((r, ()), ())) where
  at_ := func59
  name := by kernel_rfl
  body := by kernel_rfl
  res := by kernel_rfl
  ok := by kernel_rfl
  arity := fun _ => Nat.le_of_ble_eq_true (by kernel_rfl)
  pin := fun _ => by kernel_rfl
  chk := by kernel_rfl
  loops := o_sp_l12Valid
  run := e_sp_l12Valid
  F := fun _ => rfl
  emb := fun _ => rfl

theorem fd_sp_l12Valid : FDok prog (59, D_sp_l12Valid) := fn_ok mixed (env_ok (List.forall_mem_cons.2 ⟨fd_sp_l12Open, fun _ h => absurd h List.not_mem_nil⟩)) tabOK ok_sp_l12Valid

theorem e_sp_CrashLog : ∀ x : D_sp_CrashLog.T, ((acode E_sp_CrashLog tt Z_sp_CrashLog (orcOf O_sp_CrashLog) C_sp_CrashLog (entry A_sp_CrashLog I_sp_CrashLog x)).map (keepRet tt K_sp_CrashLog)).ev = ((T_sp_CrashLog x.1.1.1 x.1.1.2.1 x.1.1.2.2.1 x.1.2.1 x.1.2.2.1).map fun r => some ((((r.1, (r.2, ())), ())) : K_sp_CrashLog.T)).ev := fun _ => by kernel_rfl

theorem o_sp_CrashLog : LoopsOK E_sp_CrashLog tt Z_sp_CrashLog O_sp_CrashLog C_sp_CrashLog := by
  have h : loopsOf C_sp_CrashLog = [] := by kernel_rfl
  unfold LoopsOK
  rw [h]
  exact fun _ h => absurd h List.not_mem_nil

theorem ok_sp_CrashLog : FnOK prog E_sp_CrashLog tt 24 D_sp_CrashLog K_sp_CrashLog Z_sp_CrashLog O_sp_CrashLog f24 C_sp_CrashLog (fun x => T_sp_CrashLog x.1.1.1 x.1.1.2.1 x.1.1.2.2.1 x.1.2.1 x.1.2.2.1) (fun r => ((r.1, (r.2, ())), ())) where
  at_ := func24
  name := by kernel_rfl
  body := by kernel_rfl
  res := by kernel_rfl
  ok := by kernel_rfl
  arity := fun _ => Nat.le_of_ble_eq_true (by kernel_rfl)
  pin := fun _ => by kernel_rfl
  chk := by kernel_rfl
  loops := o_sp_CrashLog
  run := e_sp_CrashLog
  F := fun _ => rfl
  emb := fun _ => rfl

theorem fd_sp_CrashLog : FDok prog (24, D_sp_CrashLog) := fn_ok mixed (env_ok (List.forall_mem_cons.2 ⟨fd_sp_l12Valid, List.forall_mem_cons.2 ⟨fd_sp_l1In, fun _ h => absurd h List.not_mem_nil⟩⟩)) tabOK ok_sp_CrashLog

theorem fd_internal_bytealg_IndexByteString : FDok prog (117, D_internal_bytealg_IndexByteString) := hand_indexByte func117 (by kernel_rfl) (by kernel_rfl) (by kernel_rfl) (by kernel_rfl)

theorem e_internal_stringslite_IndexByte : ∀ x : D_internal_stringslite_IndexByte.T, ((acode E_internal_stringslite_IndexByte tt Z_internal_stringslite_IndexByte (orcOf O_internal_stringslite_IndexByte) C_internal_stringslite_IndexByte (entry A_internal_stringslite_IndexByte I_internal_stringslite_IndexByte x)).map (keepRet tt K_internal_stringslite_IndexByte)).ev = ((T_internal_stringslite_IndexByte x.1.1 x.1.2.1).map fun r => some ((((r, ()), ())) : K_internal_stringslite_IndexByte.T)).ev := fun _ => by kernel_rfl

theorem o_internal_stringslite_IndexByte : LoopsOK E_internal_stringslite_IndexByte tt Z_internal_stringslite_IndexByte O_internal_stringslite_IndexByte C_internal_stringslite_IndexByte := by
  have h : loopsOf C_internal_stringslite_IndexByte = [] := by kernel_rfl
  unfold LoopsOK
  rw [h]
  exact fun _ h => absurd h List.not_mem_nil

theorem ok_internal_stringslite_IndexByte : FnOK prog E_internal_stringslite_IndexByte tt 102 D_internal_stringslite_IndexByte K_internal_stringslite_IndexByte Z_internal_stringslite_IndexByte O_internal_stringslite_IndexByte f102 C_internal_stringslite_IndexByte (fun x => T_internal_stringslite_IndexByte x.1.1 x.1.2.1) (fun r => ((r, ()), ())) where
  at_ := func102
  name := by kernel_rfl
  body := by kernel_rfl
  res := by kernel_rfl
  ok := by kernel_rfl
  arity := fun _ => Nat.le_of_ble_eq_true (by kernel_rfl)
  pin := fun _ => by kernel_rfl
  chk := by kernel_rfl
  loops := o_internal_stringslite_IndexByte
  run := e_internal_stringslite_IndexByte
  F := fun _ => rfl
  emb := fun _ => rfl

theorem fd_internal_stringslite_IndexByte : FDok prog (102, D_internal_stringslite_IndexByte) := fn_ok mixed (env_ok (List.forall_mem_cons.2 ⟨fd_internal_bytealg_IndexByteString, fun _ h => absurd h List.not_mem_nil⟩)) tabOK ok_internal_stringslite_IndexByte

theorem e_strings_IndexByte : ∀ x : D_strings_IndexByte.T, ((acode E_strings_IndexByte tt Z_strings_IndexByte (orcOf O_strings_IndexByte) C_strings_IndexByte (entry A_strings_IndexByte I_strings_IndexByte x)).map (keepRet tt K_strings_IndexByte)).ev = ((T_strings_IndexByte x.1.1 x.1.2.1).map fun r => some ((((r, ()), ())) : K_strings_IndexByte.T)).ev := fun _ => by kernel_rfl

theorem o_strings_IndexByte : LoopsOK E_strings_IndexByte tt Z_strings_IndexByte O_strings_IndexByte C_strings_IndexByte := by
  have h : loopsOf C_strings_IndexByte = [] := by kernel_rfl
  unfold LoopsOK
  rw [h]
  exact fun _ h => absurd h List.not_mem_nil

theorem ok_strings_IndexByte : FnOK prog E_strings_IndexByte tt 84 D_strings_IndexByte K_strings_IndexByte Z_strings_IndexByte O_strings_IndexByte f84 C_strings_IndexByte (fun x => T_strings_IndexByte x.1.1 x.1.2.1) (fun r => ((r, ()), ())) where
  at_ := func84
  name := by kernel_rfl
  body := by kernel_rfl
  res := by kernel_rfl
  ok := by kernel_rfl
  arity := fun _ => Nat.le_of_ble_eq_true (by kernel_rfl)
  pin := fun _ => by kernel_rfl
  chk := by kernel_rfl
  loops := o_strings_IndexByte
  run := e_strings_IndexByte
  F := fun _ => rfl
  emb := fun _ => rfl

theorem fd_strings_IndexByte : FDok prog (84, D_strings_IndexByte) := fn_ok mixed (env_ok (List.forall_mem_cons.2 ⟨fd_internal_stringslite_IndexByte, fun _ h => absurd h List.not_mem_nil⟩)) tabOK ok_strings_IndexByte

theorem e_internal_stringslite_Index : ∀ x : D_internal_stringslite_Index.T, ((acode E_internal_stringslite_Index tt Z_internal_stringslite_Index (orcOf O_internal_stringslite_Index) C_internal_stringslite_Index (entry A_internal_stringslite_Index I_internal_stringslite_Index x)).map (keepRet tt K_internal_stringslite_Index)).ev = ((T_internal_stringslite_Index x.1.1 x.1.2.1).map fun r => some ((((r, ()), ())) : K_internal_stringslite_Index.T)).ev := fun _ => by kernel_rfl

noncomputable def B_internal_stringslite_Index_1 : Code := ((loopsOf C_internal_stringslite_Index).find? fun p => Nat.beq p.1 1).elim .skip (·.2)

theorem o_internal_stringslite_Index : LoopsOK E_internal_stringslite_Index tt Z_internal_stringslite_Index O_internal_stringslite_Index C_internal_stringslite_Index := by
  have h : loopsOf C_internal_stringslite_Index = [(1, B_internal_stringslite_Index_1)] := by kernel_rfl
  unfold LoopsOK
  rw [h]
  exact List.forall_mem_cons.2 ⟨fun d h => (by have e : (none : Option LD) = some d := h; cases e), fun _ h => absurd h List.not_mem_nil⟩

theorem ok_internal_stringslite_Index : FnOK prog E_internal_stringslite_Index tt 104 D_internal_stringslite_Index K_internal_stringslite_Index Z_internal_stringslite_Index O_internal_stringslite_Index f104 C_internal_stringslite_Index (fun x => T_internal_stringslite_Index x.1.1 x.1.2.1) (fun r => ((r, ()), ())) where
  at_ := func104
  name := by kernel_rfl
  body := by kernel_rfl
  res := by kernel_rfl
  ok := by kernel_rfl
  arity := fun _ => Nat.le_of_ble_eq_true (by kernel_rfl)
  pin := fun _ => by kernel_rfl
  chk := by kernel_rfl
  loops := o_internal_stringslite_Index
  run := e_internal_stringslite_Index
  F := fun _ => rfl
  emb := fun _ => rfl

theorem fd_internal_stringslite_Index : FDok prog (104, D_internal_stringslite_Index) := fn_ok mixed (env_ok (List.forall_mem_cons.2 ⟨fd_internal_stringslite_IndexByte, fun _ h => absurd h List.not_mem_nil⟩)) tabOK ok_internal_stringslite_Index

theorem e_internal_stringslite_Cut : ∀ x : D_internal_stringslite_Cut.T, ((acode E_internal_stringslite_Cut tt Z_internal_stringslite_Cut (orcOf O_internal_stringslite_Cut) C_internal_stringslite_Cut (entry A_internal_stringslite_Cut I_internal_stringslite_Cut x)).map (keepRet tt K_internal_stringslite_Cut)).ev = ((T_internal_stringslite_Cut x.1.1 x.1.2.1).map fun r => some ((((r.1, (r.2.1, (r.2.2, ()))), ())) : K_internal_stringslite_Cut.T)).ev := fun _ => by kernel_rfl

theorem o_internal_stringslite_Cut : LoopsOK E_internal_stringslite_Cut tt Z_internal_stringslite_Cut O_internal_stringslite_Cut C_internal_stringslite_Cut := by
  have h : loopsOf C_internal_stringslite_Cut = [] := by kernel_rfl
  unfold LoopsOK
  rw [h]
  exact fun _ h => absurd h List.not_mem_nil

theorem ok_internal_stringslite_Cut : FnOK prog E_internal_stringslite_Cut tt 103 D_internal_stringslite_Cut K_internal_stringslite_Cut Z_internal_stringslite_Cut O_internal_stringslite_Cut f103 C_internal_stringslite_Cut (fun x => T_internal_stringslite_Cut x.1.1 x.1.2.1) (fun r => ((r.1, (r.2.1, (r.2.2, ()))), ())) where
  at_ := func103
  name := by kernel_rfl
  body := by kernel_rfl
  res := by kernel_rfl
  ok := by kernel_rfl
  arity := fun _ => Nat.le_of_ble_eq_true (by kernel_rfl)
  pin := fun _ => by kernel_rfl
  chk := by kernel_rfl
  loops := o_internal_stringslite_Cut
  run := e_internal_stringslite_Cut
  F := fun _ => rfl
  emb := fun _ => rfl

theorem fd_internal_stringslite_Cut : FDok prog (103, D_internal_stringslite_Cut) := fn_ok mixed (env_ok (List.forall_mem_cons.2 ⟨fd_internal_stringslite_Index, fun _ h => absurd h List.not_mem_nil⟩)) tabOK ok_internal_stringslite_Cut

theorem e_strings_Cut : ∀ x : D_strings_Cut.T, ((acode E_strings_Cut tt Z_strings_Cut (orcOf O_strings_Cut) C_strings_Cut (entry A_strings_Cut I_strings_Cut x)).map (keepRet tt K_strings_Cut)).ev = ((T_strings_Cut x.1.1 x.1.2.1).map fun r => some ((((r.1, (r.2.1, (r.2.2, ()))), ())) : K_strings_Cut.T)).ev := fun _ => by kernel_rfl

theorem o_strings_Cut : LoopsOK E_strings_Cut tt Z_strings_Cut O_strings_Cut C_strings_Cut := by
  have h : loopsOf C_strings_Cut = [] := by kernel_rfl
  unfold LoopsOK
  rw [h]
  exact fun _ h => absurd h List.not_mem_nil

theorem ok_strings_Cut : FnOK prog E_strings_Cut tt 86 D_strings_Cut K_strings_Cut Z_strings_Cut O_strings_Cut f86 C_strings_Cut (fun x => T_strings_Cut x.1.1 x.1.2.1) (fun r => ((r.1, (r.2.1, (r.2.2, ()))), ())) where
  at_ := func86
  name := by kernel_rfl
  body := by kernel_rfl
  res := by kernel_rfl
  ok := by kernel_rfl
  arity := fun _ => Nat.le_of_ble_eq_true (by kernel_rfl)
  pin := fun _ => by kernel_rfl
  chk := by kernel_rfl
  loops := o_strings_Cut
  run := e_strings_Cut
  F := fun _ => rfl
  emb := fun _ => rfl

theorem fd_strings_Cut : FDok prog (86, D_strings_Cut) := fn_ok mixed (env_ok (List.forall_mem_cons.2 ⟨fd_internal_stringslite_Cut, fun _ h => absurd h List.not_mem_nil⟩)) tabOK ok_strings_Cut

theorem e_strings_Index : ∀ x : D_strings_Index.T, ((acode E_strings_Index tt Z_strings_Index (orcOf O_strings_Index) C_strings_Index (entry A_strings_Index I_strings_Index x)).map (keepRet tt K_strings_Index)).ev = ((T_strings_Index x.1.1 x.1.2.1).map fun r => some ((((r, ()), ())) : K_strings_Index.T)).ev := fun _ => by kernel_rfl

theorem o_strings_Index : LoopsOK E_strings_Index tt Z_strings_Index O_strings_Index C_strings_Index := by
  have h : loopsOf C_strings_Index = [] := by kernel_rfl
  unfold LoopsOK
  rw [h]
  exact fun _ h => absurd h List.not_mem_nil

theorem ok_strings_Index : FnOK prog E_strings_Index tt 89 D_strings_Index K_strings_Index Z_strings_Index O_strings_Index f89 C_strings_Index (fun x => T_strings_Index x.1.1 x.1.2.1) (fun r => ((r, ()), ())) where
  at_ := func89
  name := by kernel_rfl
  body := by kernel_rfl
  res := by kernel_rfl
  ok := by kernel_rfl
  arity := fun _ => Nat.le_of_ble_eq_true (by kernel_rfl)
  pin := fun _ => by kernel_rfl
  chk := by kernel_rfl
  loops := o_strings_Index
  run := e_strings_Index
  F := fun _ => rfl
  emb := fun _ => rfl

theorem fd_strings_Index : FDok prog (89, D_strings_Index) := fn_ok mixed (env_ok (List.forall_mem_cons.2 ⟨fd_internal_stringslite_Index, fun _ h => absurd h List.not_mem_nil⟩)) tabOK ok_strings_Index

theorem e_strings_Contains : ∀ x : D_strings_Contains.T, ((acode E_strings_Contains tt Z_strings_Contains (orcOf O_strings_Contains) C_strings_Contains (entry A_strings_Contains I_strings_Contains x)).map (keepRet tt K_strings_Contains)).ev = ((T_strings_Contains x.1.1 x.1.2.1).map fun r => some ((((r, ()), ())) : K_strings_Contains.T)).ev := fun _ => by kernel_rfl

theorem o_strings_Contains : LoopsOK E_strings_Contains tt Z_strings_Contains O_strings_Contains C_strings_Contains := by
  have h : loopsOf C_strings_Contains = [] := by kernel_rfl
  unfold LoopsOK
  rw [h]
  exact fun _ h => absurd h List.not_mem_nil

theorem ok_strings_Contains : FnOK prog E_strings_Contains tt 68 D_strings_Contains K_strings_Contains Z_strings_Contains O_strings_Contains f68 C_strings_Contains (fun x => T_strings_Contains x.1.1 x.1.2.1) (fun r => ((r, ()), ())) where
  at_ := func68
  name := by kernel_rfl
  body := by kernel_rfl
  res := by kernel_rfl
  ok := by kernel_rfl
  arity := fun _ => Nat.le_of_ble_eq_true (by kernel_rfl)
  pin := fun _ => by kernel_rfl
  chk := by kernel_rfl
  loops := o_strings_Contains
  run := e_strings_Contains
  F := fun _ => rfl
  emb := fun _ => rfl

theorem fd_strings_Contains : FDok prog (68, D_strings_Contains) := fn_ok mixed (env_ok (List.forall_mem_cons.2 ⟨fd_strings_Index, fun _ h => absurd h List.not_mem_nil⟩)) tabOK ok_strings_Contains

theorem e_im_checksum : ∀ x : D_im_checksum.T, ((acode E_im_checksum tt Z_im_checksum (orcOf O_im_checksum) C_im_checksum (entry A_im_checksum I_im_checksum x)).map (keepRet tt K_im_checksum)).ev = ((T_im_checksum x.1.1).map fun r => some ((((r, ()), ())) : K_im_checksum.T)).ev := fun _ => by kernel_rfl

noncomputable def B_im_checksum_0 : Code := ((loopsOf C_im_checksum).find? fun p => Nat.beq p.1 0).elim .skip (·.2)
theorem l_im_checksum_0 : (DL_im_checksum_0).OK E_im_checksum tt Z_im_checksum (orcOf O_im_checksum) B_im_checksum_0 where
  ok := by kernel_rfl
  oke := by kernel_rfl
  okr := by kernel_rfl
  eta := fun _ => rfl
  step := fun _ _ => by kernel_rfl

theorem o_im_checksum : LoopsOK E_im_checksum tt Z_im_checksum O_im_checksum C_im_checksum := by
  have h : loopsOf C_im_checksum = [(0, B_im_checksum_0)] := by kernel_rfl
  unfold LoopsOK
  rw [h]
  exact List.forall_mem_cons.2 ⟨fun d h => (by have e : some (DL_im_checksum_0) = some d := h; cases e; exact l_im_checksum_0), fun _ h => absurd h List.not_mem_nil⟩

theorem ok_im_checksum : FnOK prog E_im_checksum tt 80 D_im_checksum K_im_checksum Z_im_checksum O_im_checksum f80 C_im_checksum (fun x => T_im_checksum x.1.1) (fun r => ((r, ()), ())) where
  at_ := func80
  name := by kernel_rfl
  body := by kernel_rfl
  res := by kernel_rfl
  ok := by kernel_rfl
  arity := fun _ => Nat.le_of_ble_eq_true (by kernel_rfl)
  pin := fun _ => by kernel_rfl
  chk := by kernel_rfl
  loops := o_im_checksum
  run := e_im_checksum
  F := fun _ => rfl
  emb := fun _ => rfl

theorem fd_im_checksum : FDok prog (80, D_im_checksum) := fn_ok mixed (env_ok (fun _ h => absurd h List.not_mem_nil)) tabOK ok_im_checksum

theorem fd_strconv_Itoa : FDok prog (56, D_strconv_Itoa) := hand_itoa

theorem e_im_AppendChecksum : ∀ x : D_im_AppendChecksum.T, ((acode E_im_AppendChecksum tt Z_im_AppendChecksum (orcOf O_im_AppendChecksum) C_im_AppendChecksum (entry A_im_AppendChecksum I_im_AppendChecksum x)).map (keepRet tt K_im_AppendChecksum)).ev = ((T_im_AppendChecksum x.1.1).map fun r => some ((((r.1, (r.2, ())), ())) : K_im_AppendChecksum.T)).ev := fun _ => by kernel_rfl

theorem o_im_AppendChecksum : LoopsOK E_im_AppendChecksum tt Z_im_AppendChecksum O_im_AppendChecksum C_im_AppendChecksum := by
  have h : loopsOf C_im_AppendChecksum = [] := by kernel_rfl
  unfold LoopsOK
  rw [h]
  exact fun _ h => absurd h List.not_mem_nil

theorem ok_im_AppendChecksum : FnOK prog E_im_AppendChecksum tt 55 D_im_AppendChecksum K_im_AppendChecksum Z_im_AppendChecksum O_im_AppendChecksum f55 C_im_AppendChecksum (fun x => T_im_AppendChecksum x.1.1) (fun r => ((r.1, (r.2, ())), ())) where
  at_ := func55
  name := by kernel_rfl
  body := by kernel_rfl
  res := by kernel_rfl
  ok := by kernel_rfl
  arity := fun _ => Nat.le_of_ble_eq_true (by kernel_rfl)
  pin := fun _ => by kernel_rfl
  chk := by kernel_rfl
  loops := o_im_AppendChecksum
  run := e_im_AppendChecksum
  F := fun _ => rfl
  emb := fun _ => rfl

theorem fd_im_AppendChecksum : FDok prog (55, D_im_AppendChecksum) := fn_ok mixed (env_ok (List.forall_mem_cons.2 ⟨fd_strings_Contains, List.forall_mem_cons.2 ⟨fd_im_checksum, List.forall_mem_cons.2 ⟨fd_strconv_Itoa, fun _ h => absurd h List.not_mem_nil⟩⟩⟩)) tabOK ok_im_AppendChecksum

theorem e_im_VerifyChecksum : ∀ x : D_im_VerifyChecksum.T, ((acode E_im_VerifyChecksum tt Z_im_VerifyChecksum (orcOf O_im_VerifyChecksum) C_im_VerifyChecksum (entry A_im_VerifyChecksum I_im_VerifyChecksum x)).map (keepRet tt K_im_VerifyChecksum)).ev = ((T_im_VerifyChecksum x.1.1).map fun r => some ((((r.1, (r.2, ())), ())) : K_im_VerifyChecksum.T)).ev := fun _ => by kernel_rfl

theorem o_im_VerifyChecksum : LoopsOK E_im_VerifyChecksum tt Z_im_VerifyChecksum O_im_VerifyChecksum C_im_VerifyChecksum := by
  have h : loopsOf C_im_VerifyChecksum = [] := by kernel_rfl
  unfold LoopsOK
  rw [h]
  exact fun _ h => absurd h List.not_mem_nil

theorem ok_im_VerifyChecksum : FnOK prog E_im_VerifyChecksum tt 85 D_im_VerifyChecksum K_im_VerifyChecksum Z_im_VerifyChecksum O_im_VerifyChecksum f85 C_im_VerifyChecksum (fun x => T_im_VerifyChecksum x.1.1) (fun r => ((r.1, (r.2, ())), ())) where
  at_ := func85
  name := by kernel_rfl
  body := by kernel_rfl
  res := by kernel_rfl
  ok := by kernel_rfl
  arity := fun _ => Nat.le_of_ble_eq_true (by kernel_rfl)
  pin := fun _ => by kernel_rfl
  chk := by kernel_rfl
  loops := o_im_VerifyChecksum
  run := e_im_VerifyChecksum
  F := fun _ => rfl
  emb := fun _ => rfl

theorem fd_im_VerifyChecksum : FDok prog (85, D_im_VerifyChecksum) := fn_ok mixed (env_ok (List.forall_mem_cons.2 ⟨fd_strings_Cut, List.forall_mem_cons.2 ⟨fd_im_AppendChecksum, fun _ h => absurd h List.not_mem_nil⟩⟩)) tabOK ok_im_VerifyChecksum

theorem e_im_between : ∀ x : D_im_between.T, ((acode E_im_between tt Z_im_between (orcOf O_im_between) C_im_between (entry A_im_between I_im_between x)).map (keepRet tt K_im_between)).ev = ((T_im_between x.1.1 x.1.2.1 x.1.2.2.1).map fun r => some ((((r, ()), ())) : K_im_between.T)).ev := fun _ => by kernel_rfl

theorem o_im_between : LoopsOK E_im_between tt Z_im_between O_im_between C_im_between := by
  have h : loopsOf C_im_between = [] := by kernel_rfl
  unfold LoopsOK
  rw [h]
  exact fun _ h => absurd h List.not_mem_nil

theorem ok_im_between : FnOK prog E_im_between tt 54 D_im_between K_im_between Z_im_between O_im_between f54 C_im_between (fun x => T_im_between x.1.1 x.1.2.1 x.1.2.2.1) (fun r => ((r, ()), ())) where
  at_ := func54
  name := by kernel_rfl
  body := by kernel_rfl
  res := by kernel_rfl
  ok := by kernel_rfl
  arity := fun _ => Nat.le_of_ble_eq_true (by kernel_rfl)
  pin := fun _ => by kernel_rfl
  chk := by kernel_rfl
  loops := o_im_between
  run := e_im_between
  F := fun _ => rfl
  emb := fun _ => rfl

theorem fd_im_between : FDok prog (54, D_im_between) := fn_ok mixed (env_ok (fun _ h => absurd h List.not_mem_nil)) tabOK ok_im_between

theorem e_im_isPlain : ∀ x : D_im_isPlain.T, ((acode E_im_isPlain tt Z_im_isPlain (orcOf O_im_isPlain) C_im_isPlain (entry A_im_isPlain I_im_isPlain x)).map (keepRet tt K_im_isPlain)).ev = ((T_im_isPlain x.1.1 x.1.2.1).map fun r => some ((((r, ()), ())) : K_im_isPlain.T)).ev := fun _ => by kernel_rfl

noncomputable def B_im_isPlain_0 : Code := ((loopsOf C_im_isPlain).find? fun p => Nat.beq p.1 0).elim .skip (·.2)
theorem l_im_isPlain_0 : (DL_im_isPlain_0).OK E_im_isPlain tt Z_im_isPlain (orcOf O_im_isPlain) B_im_isPlain_0 where
  ok := by kernel_rfl
  oke := by kernel_rfl
  okr := by kernel_rfl
  eta := fun _ => rfl
  step := fun _ _ => by kernel_rfl

theorem o_im_isPlain : LoopsOK E_im_isPlain tt Z_im_isPlain O_im_isPlain C_im_isPlain := by
  have h : loopsOf C_im_isPlain = [(0, B_im_isPlain_0)] := by kernel_rfl
  unfold LoopsOK
  rw [h]
  exact List.forall_mem_cons.2 ⟨fun d h => (by have e : some (DL_im_isPlain_0) = some d := h; cases e; exact l_im_isPlain_0), fun _ h => absurd h List.not_mem_nil⟩

theorem ok_im_isPlain : FnOK prog E_im_isPlain tt 67 D_im_isPlain K_im_isPlain Z_im_isPlain O_im_isPlain f67 C_im_isPlain (fun x => T_im_isPlain x.1.1 x.1.2.1) (fun r => ((r, ()), ())) where
  at_ := func67
  name := by kernel_rfl
  body := by kernel_rfl
  res := by kernel_rfl
  ok := by kernel_rfl
  arity := fun _ => Nat.le_of_ble_eq_true (by kernel_rfl)
  pin := fun _ => by kernel_rfl
  chk := by kernel_rfl
  loops := o_im_isPlain
  run := e_im_isPlain
  F := fun _ => rfl
  emb := fun _ => rfl

theorem fd_im_isPlain : FDok prog (67, D_im_isPlain) := fn_ok mixed (env_ok (fun _ h => absurd h List.not_mem_nil)) tabOK ok_im_isPlain

theorem e_im_IsValidRecord : ∀ x : D_im_IsValidRecord.T, ((acode E_im_IsValidRecord tt Z_im_IsValidRecord (orcOf O_im_IsValidRecord) C_im_IsValidRecord (entry A_im_IsValidRecord I_im_IsValidRecord x)).map (keepRet tt K_im_IsValidRecord)).ev = ((T_im_IsValidRecord x.1.1.1 x.1.1.2.1).map fun r => some ((((r, ()), ())) : K_im_IsValidRecord.T)).ev := fun _ => by kernel_rfl

theorem o_im_IsValidRecord : LoopsOK E_im_IsValidRecord tt Z_im_IsValidRecord O_im_IsValidRecord C_im_IsValidRecord := by
  have h : loopsOf C_im_IsValidRecord = [] := by kernel_rfl
  unfold LoopsOK
  rw [h]
  exact fun _ h => absurd h List.not_mem_nil

theorem ok_im_IsValidRecord : FnOK prog E_im_IsValidRecord tt 41 D_im_IsValidRecord K_im_IsValidRecord Z_im_IsValidRecord O_im_IsValidRecord f41 C_im_IsValidRecord (fun x => T_im_IsValidRecord x.1.1.1 x.1.1.2.1) (fun r => ((r, ()), ())) where
  at_ := func41
  name := by kernel_rfl
  body := by kernel_rfl
  res := by kernel_rfl
  ok := by kernel_rfl
  arity := fun _ => Nat.le_of_ble_eq_true (by kernel_rfl)
  pin := fun _ => by kernel_rfl
  chk := by kernel_rfl
  loops := o_im_IsValidRecord
  run := e_im_IsValidRecord
  F := fun _ => rfl
  emb := fun _ => rfl

theorem fd_im_IsValidRecord : FDok prog (41, D_im_IsValidRecord) := fn_ok mixed (env_ok (List.forall_mem_cons.2 ⟨fd_im_isPlain, List.forall_mem_cons.2 ⟨fd_strings_Contains, fun _ h => absurd h List.not_mem_nil⟩⟩)) tabOK ok_im_IsValidRecord

theorem e_im_EncodeRecord : ∀ x : D_im_EncodeRecord.T, ((acode E_im_EncodeRecord tt Z_im_EncodeRecord (orcOf O_im_EncodeRecord) C_im_EncodeRecord (entry A_im_EncodeRecord I_im_EncodeRecord x)).map (keepRet tt K_im_EncodeRecord)).ev = ((T_im_EncodeRecord x.1.1 x.1.2.1.1 x.1.2.1.2.1).map fun r => some ((((r.1, (r.2, ())), ())) : K_im_EncodeRecord.T)).ev := fun _ => by kernel_rfl

theorem o_im_EncodeRecord : LoopsOK E_im_EncodeRecord tt Z_im_EncodeRecord O_im_EncodeRecord C_im_EncodeRecord := by
  have h : loopsOf C_im_EncodeRecord = [] := by kernel_rfl
  unfold LoopsOK
  rw [h]
  exact fun _ h => absurd h List.not_mem_nil

theorem ok_im_EncodeRecord : FnOK prog E_im_EncodeRecord tt 16 D_im_EncodeRecord K_im_EncodeRecord Z_im_EncodeRecord O_im_EncodeRecord f16 C_im_EncodeRecord (fun x => T_im_EncodeRecord x.1.1 x.1.2.1.1 x.1.2.1.2.1) (fun r => ((r.1, (r.2, ())), ())) where
  at_ := func16
  name := by kernel_rfl
  body := by kernel_rfl
  res := by kernel_rfl
  ok := by kernel_rfl
  arity := fun _ => Nat.le_of_ble_eq_true (by kernel_rfl)
  pin := fun _ => by kernel_rfl
  chk := by kernel_rfl
  loops := o_im_EncodeRecord
  run := e_im_EncodeRecord
  F := fun _ => rfl
  emb := fun _ => rfl

theorem fd_im_EncodeRecord : FDok prog (16, D_im_EncodeRecord) := fn_ok mixed (env_ok (List.forall_mem_cons.2 ⟨fd_im_between, List.forall_mem_cons.2 ⟨fd_im_IsValidRecord, List.forall_mem_cons.2 ⟨fd_strconv_Itoa, List.forall_mem_cons.2 ⟨fd_im_AppendChecksum, fun _ h => absurd h List.not_mem_nil⟩⟩⟩⟩)) tabOK ok_im_EncodeRecord

theorem e_im_readRecords : ∀ x : D_im_readRecords.T, ((acode E_im_readRecords tt Z_im_readRecords (orcOf O_im_readRecords) C_im_readRecords (entry A_im_readRecords I_im_readRecords x)).map (keepRet tt K_im_readRecords)).ev = ((T_im_readRecords x.1.1).map fun r => some (((((), (r.1, ())), (r.2, ()))) : K_im_readRecords.T)).ev := fun _ => by kernel_rfl

noncomputable def B_im_readRecords_0 : Code := ((loopsOf C_im_readRecords).find? fun p => Nat.beq p.1 0).elim .skip (·.2)
theorem l_im_readRecords_0 : (DL_im_readRecords_0).OK E_im_readRecords tt Z_im_readRecords (orcOf O_im_readRecords) B_im_readRecords_0 where
  ok := by kernel_rfl
  oke := by kernel_rfl
  okr := by kernel_rfl
  eta := fun _ => rfl
  step := fun _ _ => by kernel_rfl

theorem o_im_readRecords : LoopsOK E_im_readRecords tt Z_im_readRecords O_im_readRecords C_im_readRecords := by
  have h : loopsOf C_im_readRecords = [(0, B_im_readRecords_0)] := by kernel_rfl
  unfold LoopsOK
  rw [h]
  exact List.forall_mem_cons.2 ⟨fun d h => (by have e : some (DL_im_readRecords_0) = some d := h; cases e; exact l_im_readRecords_0), fun _ h => absurd h List.not_mem_nil⟩

theorem ok_im_readRecords : FnOK prog E_im_readRecords tt 58 D_im_readRecords K_im_readRecords Z_im_readRecords O_im_readRecords f58 C_im_readRecords (fun x => T_im_readRecords x.1.1) (fun r => (((), (r.1, ())), (r.2, ()))) where
  at_ := func58
  name := by kernel_rfl
  body := by kernel_rfl
  res := by kernel_rfl
  ok := by kernel_rfl
  arity := fun _ => Nat.le_of_ble_eq_true (by kernel_rfl)
  pin := fun _ => by kernel_rfl
  chk := by kernel_rfl
  loops := o_im_readRecords
  run := e_im_readRecords
  F := fun _ => rfl
  emb := fun _ => rfl

theorem fd_im_readRecords : FDok prog (58, D_im_readRecords) := fn_ok mixed (env_ok (List.forall_mem_cons.2 ⟨fd_strings_IndexByte, List.forall_mem_cons.2 ⟨fd_im_VerifyChecksum, List.forall_mem_cons.2 ⟨fd_strings_Cut, List.forall_mem_cons.2 ⟨fd_im_EncodeRecord, fun _ h => absurd h List.not_mem_nil⟩⟩⟩⟩)) tabOK ok_im_readRecords

theorem e_im_IsValidLog : ∀ x : D_im_IsValidLog.T, ((acode E_im_IsValidLog tt Z_im_IsValidLog (orcOf O_im_IsValidLog) C_im_IsValidLog (entry A_im_IsValidLog I_im_IsValidLog x)).map (keepRet tt K_im_IsValidLog)).ev = ((T_im_IsValidLog x.1.1.1 x.1.1.2.1 x.1.1.2.2.1).map fun r => some ((((r, ()), ())) : K_im_IsValidLog.T)).ev := fun _ => by kernel_rfl

theorem o_im_IsValidLog : LoopsOK E_im_IsValidLog tt Z_im_IsValidLog O_im_IsValidLog C_im_IsValidLog := by
  have h : loopsOf C_im_IsValidLog = [] := by kernel_rfl
  unfold LoopsOK
  rw [h]
  exact fun _ h => absurd h List.not_mem_nil

theorem ok_im_IsValidLog : FnOK prog E_im_IsValidLog tt 23 D_im_IsValidLog K_im_IsValidLog Z_im_IsValidLog O_im_IsValidLog f23 C_im_IsValidLog (fun x => T_im_IsValidLog x.1.1.1 x.1.1.2.1 x.1.1.2.2.1) (fun r => ((r, ()), ())) where
  at_ := func23
  name := by kernel_rfl
  body := by kernel_rfl
  res := by kernel_rfl
  ok := by kernel_rfl
  arity := fun _ => Nat.le_of_ble_eq_true (by kernel_rfl)
  pin := fun _ => by kernel_rfl
  chk := by kernel_rfl
  loops := o_im_IsValidLog
  run := e_im_IsValidLog
  F := fun _ => rfl
  emb := fun _ => rfl

theorem fd_im_IsValidLog : FDok prog (23, D_im_IsValidLog) := fn_ok mixed (env_ok (List.forall_mem_cons.2 ⟨fd_im_readRecords, fun _ h => absurd h List.not_mem_nil⟩)) tabOK ok_im_IsValidLog

theorem e_im_CrashLog : ∀ x : D_im_CrashLog.T, ((acode E_im_CrashLog tt Z_im_CrashLog (orcOf O_im_CrashLog) C_im_CrashLog (entry A_im_CrashLog I_im_CrashLog x)).map (keepRet tt K_im_CrashLog)).ev = ((T_im_CrashLog x.1.1.1 x.1.1.2.1 x.1.1.2.2.1 x.1.2.1 x.1.2.2.1).map fun r => some ((((r.1, (r.2, ())), ())) : K_im_CrashLog.T)).ev := fun _ => by kernel_rfl

theorem o_im_CrashLog : LoopsOK E_im_CrashLog tt Z_im_CrashLog O_im_CrashLog C_im_CrashLog := by
  have h : loopsOf C_im_CrashLog = [] := by kernel_rfl
  unfold LoopsOK
  rw [h]
  exact fun _ h => absurd h List.not_mem_nil

theorem ok_im_CrashLog : FnOK prog E_im_CrashLog tt 25 D_im_CrashLog K_im_CrashLog Z_im_CrashLog O_im_CrashLog f25 C_im_CrashLog (fun x => T_im_CrashLog x.1.1.1 x.1.1.2.1 x.1.1.2.2.1 x.1.2.1 x.1.2.2.1) (fun r => ((r.1, (r.2, ())), ())) where
  at_ := func25
  name := by kernel_rfl
  body := by kernel_rfl
  res := by kernel_rfl
  ok := by kernel_rfl
  arity := fun _ => Nat.le_of_ble_eq_true (by kernel_rfl)
  pin := fun _ => by kernel_rfl
  chk := by kernel_rfl
  loops := o_im_CrashLog
  run := e_im_CrashLog
  F := fun _ => rfl
  emb := fun _ => rfl

theorem fd_im_CrashLog : FDok prog (25, D_im_CrashLog) := fn_ok mixed (env_ok (List.forall_mem_cons.2 ⟨fd_im_IsValidLog, List.forall_mem_cons.2 ⟨fd_im_between, fun _ h => absurd h List.not_mem_nil⟩⟩)) tabOK ok_im_CrashLog

theorem e_lw_FnExactCrashLog : ∀ x : D_lw_FnExactCrashLog.T, ((acode E_lw_FnExactCrashLog tt Z_lw_FnExactCrashLog (orcOf O_lw_FnExactCrashLog) C_lw_FnExactCrashLog (entry A_lw_FnExactCrashLog I_lw_FnExactCrashLog x)).map (keepRet tt K_lw_FnExactCrashLog)).ev = ((T_lw_FnExactCrashLog x.1.1.1 x.1.1.2.1 x.1.1.2.2.1 x.1.2.1 x.1.2.2.1).map fun r => some ((((r, ()), ())) : K_lw_FnExactCrashLog.T)).ev := fun _ => by kernel_rfl

theorem o_lw_FnExactCrashLog : LoopsOK E_lw_FnExactCrashLog tt Z_lw_FnExactCrashLog O_lw_FnExactCrashLog C_lw_FnExactCrashLog := by
  have h : loopsOf C_lw_FnExactCrashLog = [] := by kernel_rfl
  unfold LoopsOK
  rw [h]
  exact fun _ h => absurd h List.not_mem_nil

theorem ok_lw_FnExactCrashLog : FnOK prog E_lw_FnExactCrashLog tt 6 D_lw_FnExactCrashLog K_lw_FnExactCrashLog Z_lw_FnExactCrashLog O_lw_FnExactCrashLog f6 C_lw_FnExactCrashLog (fun x => T_lw_FnExactCrashLog x.1.1.1 x.1.1.2.1 x.1.1.2.2.1 x.1.2.1 x.1.2.2.1) (fun r => ((r, ()), ())) where
  at_ := func6
  name := by kernel_rfl
  body := by kernel_rfl
  res := by kernel_rfl
  ok := by kernel_rfl
  arity := fun _ => Nat.le_of_ble_eq_true (by kernel_rfl)
  pin := fun _ => by kernel_rfl
  chk := by kernel_rfl
  loops := o_lw_FnExactCrashLog
  run := e_lw_FnExactCrashLog
  F := fun _ => rfl
  emb := fun _ => rfl

theorem fd_lw_FnExactCrashLog : FDok prog (6, D_lw_FnExactCrashLog) := fn_ok mixed (env_ok (List.forall_mem_cons.2 ⟨fd_lw_szLog, List.forall_mem_cons.2 ⟨fd_lw_toLog, List.forall_mem_cons.2 ⟨fd_sp_CrashLog, List.forall_mem_cons.2 ⟨fd_im_CrashLog, fun _ h => absurd h List.not_mem_nil⟩⟩⟩⟩)) tabOK ok_lw_FnExactCrashLog

theorem e_lw_vBig : ∀ x : D_lw_vBig.T, ((acode E_lw_vBig tt Z_lw_vBig (orcOf O_lw_vBig) C_lw_vBig (entry A_lw_vBig I_lw_vBig x)).map (keepRet tt K_lw_vBig)).ev = ((T_lw_vBig x.1.1).map fun r => some ((((r, ()), ())) : K_lw_vBig.T)).ev := fun _ => by kernel_rfl

theorem o_lw_vBig : LoopsOK E_lw_vBig tt Z_lw_vBig O_lw_vBig C_lw_vBig := by
  have h : loopsOf C_lw_vBig = [] := by kernel_rfl
  unfold LoopsOK
  rw [h]
  exact fun _ h => absurd h List.not_mem_nil

theorem ok_lw_vBig : FnOK prog E_lw_vBig tt 35 D_lw_vBig K_lw_vBig Z_lw_vBig O_lw_vBig f35 C_lw_vBig (fun x => T_lw_vBig x.1.1) (fun r => ((r, ()), ())) where
  at_ := func35
  name := by kernel_rfl
  body := by kernel_rfl
  res := by kernel_rfl
  ok := by kernel_rfl
  arity := fun _ => Nat.le_of_ble_eq_true (by kernel_rfl)
  pin := fun _ => by kernel_rfl
  chk := by kernel_rfl
  loops := o_lw_vBig
  run := e_lw_vBig
  F := fun _ => rfl
  emb := fun _ => rfl

theorem fd_lw_vBig : FDok prog (35, D_lw_vBig) := fn_ok mixed (env_ok (fun _ h => absurd h List.not_mem_nil)) tabOK ok_lw_vBig

theorem e_sp_l1Cur_next : ∀ x : D_sp_l1Cur_next.T, ((acode E_sp_l1Cur_next tt Z_sp_l1Cur_next (orcOf O_sp_l1Cur_next) C_sp_l1Cur_next (entry A_sp_l1Cur_next I_sp_l1Cur_next x)).map (keepRet tt K_sp_l1Cur_next)).ev = ((T_sp_l1Cur_next x.2.1.1 x.2.1.2.1 x.2.1.2.2.1).map fun r => some ((((r.1, ()), ((r.2.1, (r.2.2.1, (r.2.2.2, ()))), ()))) : K_sp_l1Cur_next.T)).ev := fun _ => by kernel_rfl

theorem o_sp_l1Cur_next : LoopsOK E_sp_l1Cur_next tt Z_sp_l1Cur_next O_sp_l1Cur_next C_sp_l1Cur_next := by
  have h : loopsOf C_sp_l1Cur_next = [] := by kernel_rfl
  unfold LoopsOK
  rw [h]
  exact fun _ h => absurd h List.not_mem_nil

theorem ok_sp_l1Cur_next : FnOK prog E_sp_l1Cur_next tt 88 D_sp_l1Cur_next K_sp_l1Cur_next Z_sp_l1Cur_next O_sp_l1Cur_next f88 C_sp_l1Cur_next (fun x => T_sp_l1Cur_next x.2.1.1 x.2.1.2.1 x.2.1.2.2.1) (fun r => ((r.1, ()), ((r.2.1, (r.2.2.1, (r.2.2.2, ()))), ()))) where
  at_ := func88
  name := by kernel_rfl
  body := by kernel_rfl
  res := by kernel_rfl
  ok := by kernel_rfl
  arity := fun _ => Nat.le_of_ble_eq_true (by kernel_rfl)
  pin := fun _ => by kernel_rfl
  chk := by kernel_rfl
  loops := o_sp_l1Cur_next
  run := e_sp_l1Cur_next
  F := fun _ => rfl
  emb := fun _ => rfl

theorem fd_sp_l1Cur_next : FDok prog (88, D_sp_l1Cur_next) := fn_ok mixed (env_ok (fun _ h => absurd h List.not_mem_nil)) tabOK ok_sp_l1Cur_next

theorem e_sp_l1Cur_pick : ∀ x : D_sp_l1Cur_pick.T, ((acode E_sp_l1Cur_pick tt Z_sp_l1Cur_pick (orcOf O_sp_l1Cur_pick) C_sp_l1Cur_pick (entry A_sp_l1Cur_pick I_sp_l1Cur_pick x)).map (keepRet tt K_sp_l1Cur_pick)).ev = ((T_sp_l1Cur_pick x.1.2.1 x.2.1.1 x.2.1.2.1 x.2.1.2.2.1).map fun r => some ((((r.1, ()), ((r.2.1, (r.2.2.1, (r.2.2.2, ()))), ()))) : K_sp_l1Cur_pick.T)).ev := fun _ => by kernel_rfl

theorem o_sp_l1Cur_pick : LoopsOK E_sp_l1Cur_pick tt Z_sp_l1Cur_pick O_sp_l1Cur_pick C_sp_l1Cur_pick := by
  have h : loopsOf C_sp_l1Cur_pick = [] := by kernel_rfl
  unfold LoopsOK
  rw [h]
  exact fun _ h => absurd h List.not_mem_nil

theorem ok_sp_l1Cur_pick : FnOK prog E_sp_l1Cur_pick tt 66 D_sp_l1Cur_pick K_sp_l1Cur_pick Z_sp_l1Cur_pick O_sp_l1Cur_pick f66 C_sp_l1Cur_pick (fun x => T_sp_l1Cur_pick x.1.2.1 x.2.1.1 x.2.1.2.1 x.2.1.2.2.1) (fun r => ((r.1, ()), ((r.2.1, (r.2.2.1, (r.2.2.2, ()))), ()))) where
  at_ := func66
  name := by kernel_rfl
  body := by kernel_rfl
  res := by kernel_rfl
  ok := by kernel_rfl
  arity := fun _ => Nat.le_of_ble_eq_true (by kernel_rfl)
  pin := fun _ => by kernel_rfl
  chk := by kernel_rfl
  loops := o_sp_l1Cur_pick
  run := e_sp_l1Cur_pick
  F := fun _ => rfl
  emb := fun _ => rfl

theorem fd_sp_l1Cur_pick : FDok prog (66, D_sp_l1Cur_pick) := fn_ok mixed (env_ok (List.forall_mem_cons.2 ⟨fd_sp_l1Cur_next, fun _ h => absurd h List.not_mem_nil⟩)) tabOK ok_sp_l1Cur_pick

theorem e_sp_l1Cur_of : ∀ x : D_sp_l1Cur_of.T, ((acode E_sp_l1Cur_of tt Z_sp_l1Cur_of (orcOf O_sp_l1Cur_of) C_sp_l1Cur_of (entry A_sp_l1Cur_of I_sp_l1Cur_of x)).map (keepRet tt K_sp_l1Cur_of)).ev = ((T_sp_l1Cur_of x.1.2.1 x.2.1.1 x.2.1.2.1 x.2.1.2.2.1).map fun r => some ((((r.1, ()), ((r.2.1, (r.2.2.1, (r.2.2.2, ()))), ()))) : K_sp_l1Cur_of.T)).ev := fun _ => by kernel_rfl

theorem o_sp_l1Cur_of : LoopsOK E_sp_l1Cur_of tt Z_sp_l1Cur_of O_sp_l1Cur_of C_sp_l1Cur_of := by
  have h : loopsOf C_sp_l1Cur_of = [] := by kernel_rfl
  unfold LoopsOK
  rw [h]
  exact fun _ h => absurd h List.not_mem_nil

theorem ok_sp_l1Cur_of : FnOK prog E_sp_l1Cur_of tt 87 D_sp_l1Cur_of K_sp_l1Cur_of Z_sp_l1Cur_of O_sp_l1Cur_of f87 C_sp_l1Cur_of (fun x => T_sp_l1Cur_of x.1.2.1 x.2.1.1 x.2.1.2.1 x.2.1.2.2.1) (fun r => ((r.1, ()), ((r.2.1, (r.2.2.1, (r.2.2.2, ()))), ()))) where
  at_ := func87
  name := by kernel_rfl
  body := by kernel_rfl
  res := by kernel_rfl
  ok := by kernel_rfl
  arity := fun _ => Nat.le_of_ble_eq_true (by kernel_rfl)
  pin := fun _ => by kernel_rfl
  chk := by kernel_rfl
  loops := o_sp_l1Cur_of
  run := e_sp_l1Cur_of
  F := fun _ => rfl
  emb := fun _ => rfl

theorem fd_sp_l1Cur_of : FDok prog (87, D_sp_l1Cur_of) := fn_ok mixed (env_ok (List.forall_mem_cons.2 ⟨fd_sp_l1Cur_pick, fun _ h => absurd h List.not_mem_nil⟩)) tabOK ok_sp_l1Cur_of

theorem e_sp_l1Cur_logRecord : ∀ x : D_sp_l1Cur_logRecord.T, ((acode E_sp_l1Cur_logRecord tt Z_sp_l1Cur_logRecord (orcOf O_sp_l1Cur_logRecord) C_sp_l1Cur_logRecord (entry A_sp_l1Cur_logRecord I_sp_l1Cur_logRecord x)).map (keepRet tt K_sp_l1Cur_logRecord)).ev = ((T_sp_l1Cur_logRecord x.2.1.1 x.2.1.2.1 x.2.1.2.2.1).map fun r => some (((((r.1, (r.2.1, ())), ()), ((r.2.2.1, (r.2.2.2.1, (r.2.2.2.2, ()))), ()))) : K_sp_l1Cur_logRecord.T)).ev := fun _ => by kernel_rfl

theorem o_sp_l1Cur_logRecord : LoopsOK E_sp_l1Cur_logRecord tt Z_sp_l1Cur_logRecord O_sp_l1Cur_logRecord C_sp_l1Cur_logRecord := by
  have h : loopsOf C_sp_l1Cur_logRecord = [] := by kernel_rfl
  unfold LoopsOK
  rw [h]
  exact fun _ h => absurd h List.not_mem_nil

theorem ok_sp_l1Cur_logRecord : FnOK prog E_sp_l1Cur_logRecord tt 62 D_sp_l1Cur_logRecord K_sp_l1Cur_logRecord Z_sp_l1Cur_logRecord O_sp_l1Cur_logRecord f62 C_sp_l1Cur_logRecord (fun x => T_sp_l1Cur_logRecord x.2.1.1 x.2.1.2.1 x.2.1.2.2.1) (fun r => (((r.1, (r.2.1, ())), ()), ((r.2.2.1, (r.2.2.2.1, (r.2.2.2.2, ()))), ()))) where
  at_ := func62
  name := by kernel_rfl
  body := by kernel_rfl
  res := by kernel_rfl
  ok := by kernel_rfl
  arity := fun _ => Nat.le_of_ble_eq_true (by kernel_rfl)
  pin := fun _ => by kernel_rfl
  chk := by kernel_rfl
  loops := o_sp_l1Cur_logRecord
  run := e_sp_l1Cur_logRecord
  F := fun _ => rfl
  emb := fun _ => rfl

theorem fd_sp_l1Cur_logRecord : FDok prog (62, D_sp_l1Cur_logRecord) := fn_ok mixed (env_ok (List.forall_mem_cons.2 ⟨fd_sp_l1Cur_of, List.forall_mem_cons.2 ⟨fd_sp_l1Cur_pick, fun _ h => absurd h List.not_mem_nil⟩⟩)) tabOK ok_sp_l1Cur_logRecord

theorem e_sp_AppendRecord : ∀ x : D_sp_AppendRecord.T, ((acode E_sp_AppendRecord tt Z_sp_AppendRecord (orcOf O_sp_AppendRecord) C_sp_AppendRecord (entry A_sp_AppendRecord I_sp_AppendRecord x)).map (keepRet tt K_sp_AppendRecord)).ev = ((T_sp_AppendRecord x.1.1.1 x.1.1.2.1 x.1.1.2.2.1 x.1.2.1.1 x.1.2.1.2.1).map fun r => some (((((r.1, (r.2.1, (r.2.2.1, ()))), (r.2.2.2, ())), ())) : K_sp_AppendRecord.T)).ev := fun _ => by kernel_rfl

theorem o_sp_AppendRecord : LoopsOK E_sp_AppendRecord tt Z_sp_AppendRecord O_sp_AppendRecord C_sp_AppendRecord := by
  have h : loopsOf C_sp_AppendRecord = [] := by kernel_rfl
  unfold LoopsOK
  rw [h]
  exact fun _ h => absurd h List.not_mem_nil

theorem ok_sp_AppendRecord : FnOK prog E_sp_AppendRecord tt 28 D_sp_AppendRecord K_sp_AppendRecord Z_sp_AppendRecord O_sp_AppendRecord f28 C_sp_AppendRecord (fun x => T_sp_AppendRecord x.1.1.1 x.1.1.2.1 x.1.1.2.2.1 x.1.2.1.1 x.1.2.1.2.1) (fun r => (((r.1, (r.2.1, (r.2.2.1, ()))), (r.2.2.2, ())), ())) where
  at_ := func28
  name := by kernel_rfl
  body := by kernel_rfl
  res := by kernel_rfl
  ok := by kernel_rfl
  arity := fun _ => Nat.le_of_ble_eq_true (by kernel_rfl)
  pin := fun _ => by kernel_rfl
  chk := by kernel_rfl
  loops := o_sp_AppendRecord
  run := e_sp_AppendRecord
  F := fun _ => rfl
  emb := fun _ => rfl

theorem fd_sp_AppendRecord : FDok prog (28, D_sp_AppendRecord) := fn_ok mixed (env_ok (List.forall_mem_cons.2 ⟨fd_sp_l12Valid, List.forall_mem_cons.2 ⟨fd_sp_l12Record, List.forall_mem_cons.2 ⟨fd_sp_l12Line, fun _ h => absurd h List.not_mem_nil⟩⟩⟩)) tabOK ok_sp_AppendRecord

theorem e_sp_l1Cur_one : ∀ x : D_sp_l1Cur_one.T, ((acode E_sp_l1Cur_one tt Z_sp_l1Cur_one (orcOf O_sp_l1Cur_one) C_sp_l1Cur_one (entry A_sp_l1Cur_one I_sp_l1Cur_one x)).map (keepRet tt K_sp_l1Cur_one)).ev = ((T_sp_l1Cur_one x.1.2.1 x.2.1.1 x.2.1.2.1 x.2.1.2.2.1).map fun r => some ((((r.1, ()), ((r.2.1, (r.2.2.1, (r.2.2.2, ()))), ()))) : K_sp_l1Cur_one.T)).ev := fun _ => by kernel_rfl

theorem o_sp_l1Cur_one : LoopsOK E_sp_l1Cur_one tt Z_sp_l1Cur_one O_sp_l1Cur_one C_sp_l1Cur_one := by
  have h : loopsOf C_sp_l1Cur_one = [] := by kernel_rfl
  unfold LoopsOK
  rw [h]
  exact fun _ h => absurd h List.not_mem_nil

theorem ok_sp_l1Cur_one : FnOK prog E_sp_l1Cur_one tt 65 D_sp_l1Cur_one K_sp_l1Cur_one Z_sp_l1Cur_one O_sp_l1Cur_one f65 C_sp_l1Cur_one (fun x => T_sp_l1Cur_one x.1.2.1 x.2.1.1 x.2.1.2.1 x.2.1.2.2.1) (fun r => ((r.1, ()), ((r.2.1, (r.2.2.1, (r.2.2.2, ()))), ()))) where
  at_ := func65
  name := by kernel_rfl
  body := by kernel_rfl
  res := by kernel_rfl
  ok := by kernel_rfl
  arity := fun _ => Nat.le_of_ble_eq_true (by kernel_rfl)
  pin := fun _ => by kernel_rfl
  chk := by kernel_rfl
  loops := o_sp_l1Cur_one
  run := e_sp_l1Cur_one
  F := fun _ => rfl
  emb := fun _ => rfl

theorem fd_sp_l1Cur_one : FDok prog (65, D_sp_l1Cur_one) := fn_ok mixed (env_ok (List.forall_mem_cons.2 ⟨fd_sp_l1Cur_pick, fun _ h => absurd h List.not_mem_nil⟩)) tabOK ok_sp_l1Cur_one

theorem e_sp_SyncLog : ∀ x : D_sp_SyncLog.T, ((acode E_sp_SyncLog tt Z_sp_SyncLog (orcOf O_sp_SyncLog) C_sp_SyncLog (entry A_sp_SyncLog I_sp_SyncLog x)).map (keepRet tt K_sp_SyncLog)).ev = ((T_sp_SyncLog x.1.1.1 x.1.1.2.1 x.1.1.2.2.1).map fun r => some (((((r.1, (r.2.1, (r.2.2.1, ()))), (r.2.2.2, ())), ())) : K_sp_SyncLog.T)).ev := fun _ => by kernel_rfl

theorem o_sp_SyncLog : LoopsOK E_sp_SyncLog tt Z_sp_SyncLog O_sp_SyncLog C_sp_SyncLog := by
  have h : loopsOf C_sp_SyncLog = [] := by kernel_rfl
  unfold LoopsOK
  rw [h]
  exact fun _ h => absurd h List.not_mem_nil

theorem ok_sp_SyncLog : FnOK prog E_sp_SyncLog tt 26 D_sp_SyncLog K_sp_SyncLog Z_sp_SyncLog O_sp_SyncLog f26 C_sp_SyncLog (fun x => T_sp_SyncLog x.1.1.1 x.1.1.2.1 x.1.1.2.2.1) (fun r => (((r.1, (r.2.1, (r.2.2.1, ()))), (r.2.2.2, ())), ())) where
  at_ := func26
  name := by kernel_rfl
  body := by kernel_rfl
  res := by kernel_rfl
  ok := by kernel_rfl
  arity := fun _ => Nat.le_of_ble_eq_true (by kernel_rfl)
  pin := fun _ => by kernel_rfl
  chk := by kernel_rfl
  loops := o_sp_SyncLog
  run := e_sp_SyncLog
  F := fun _ => rfl
  emb := fun _ => rfl

theorem fd_sp_SyncLog : FDok prog (26, D_sp_SyncLog) := fn_ok mixed (env_ok (List.forall_mem_cons.2 ⟨fd_sp_l12Valid, fun _ h => absurd h List.not_mem_nil⟩)) tabOK ok_sp_SyncLog

theorem e_sp_l1Cur_log12 : ∀ x : D_sp_l1Cur_log12.T, ((acode E_sp_l1Cur_log12 tt Z_sp_l1Cur_log12 (orcOf O_sp_l1Cur_log12) C_sp_l1Cur_log12 (entry A_sp_l1Cur_log12 I_sp_l1Cur_log12 x)).map (keepRet tt K_sp_l1Cur_log12)).ev = ((T_sp_l1Cur_log12 x.2.1.1 x.2.1.2.1 x.2.1.2.2.1).map fun r => some (((((r.1, (r.2.1, (r.2.2.1, ()))), ()), ((r.2.2.2.1, (r.2.2.2.2.1, (r.2.2.2.2.2, ()))), ()))) : K_sp_l1Cur_log12.T)).ev := fun _ => by kernel_rfl

noncomputable def B_sp_l1Cur_log12_0 : Code := ((loopsOf C_sp_l1Cur_log12).find? fun p => Nat.beq p.1 0).elim .skip (·.2)
theorem l_sp_l1Cur_log12_0 : (DL_sp_l1Cur_log12_0).OK E_sp_l1Cur_log12 tt Z_sp_l1Cur_log12 (orcOf O_sp_l1Cur_log12) B_sp_l1Cur_log12_0 where
  ok := by kernel_rfl
  oke := by kernel_rfl
  okr := by kernel_rfl
  eta := fun _ => rfl
  step := fun _ _ => by kernel_rfl

theorem o_sp_l1Cur_log12 : LoopsOK E_sp_l1Cur_log12 tt Z_sp_l1Cur_log12 O_sp_l1Cur_log12 C_sp_l1Cur_log12 := by
  have h : loopsOf C_sp_l1Cur_log12 = [(0, B_sp_l1Cur_log12_0)] := by kernel_rfl
  unfold LoopsOK
  rw [h]
  exact List.forall_mem_cons.2 ⟨fun d h => (by have e : some (DL_sp_l1Cur_log12_0) = some d := h; cases e; exact l_sp_l1Cur_log12_0), fun _ h => absurd h List.not_mem_nil⟩

theorem ok_sp_l1Cur_log12 : FnOK prog E_sp_l1Cur_log12 tt 69 D_sp_l1Cur_log12 K_sp_l1Cur_log12 Z_sp_l1Cur_log12 O_sp_l1Cur_log12 f69 C_sp_l1Cur_log12 (fun x => T_sp_l1Cur_log12 x.2.1.1 x.2.1.2.1 x.2.1.2.2.1) (fun r => (((r.1, (r.2.1, (r.2.2.1, ()))), ()), ((r.2.2.2.1, (r.2.2.2.2.1, (r.2.2.2.2.2, ()))), ()))) where
  at_ := func69
  name := by kernel_rfl
  body := by kernel_rfl
  res := by kernel_rfl
  ok := by kernel_rfl
  arity := fun _ => Nat.le_of_ble_eq_true (by kernel_rfl)
  pin := fun _ => by kernel_rfl
  chk := by kernel_rfl
  loops := o_sp_l1Cur_log12
  run := e_sp_l1Cur_log12
  F := fun _ => rfl
  emb := fun _ => rfl

theorem fd_sp_l1Cur_log12 : FDok prog (69, D_sp_l1Cur_log12) := fn_ok mixed (env_ok (List.forall_mem_cons.2 ⟨fd_sp_l1Cur_pick, List.forall_mem_cons.2 ⟨fd_sp_l1Cur_logRecord, List.forall_mem_cons.2 ⟨fd_sp_AppendRecord, List.forall_mem_cons.2 ⟨fd_sp_l1Cur_one, List.forall_mem_cons.2 ⟨fd_sp_SyncLog, fun _ h => absurd h List.not_mem_nil⟩⟩⟩⟩⟩)) tabOK ok_sp_l1Cur_log12

theorem e_sp_l1Cur_spoilt : ∀ x : D_sp_l1Cur_spoilt.T, ((acode E_sp_l1Cur_spoilt tt Z_sp_l1Cur_spoilt (orcOf O_sp_l1Cur_spoilt) C_sp_l1Cur_spoilt (entry A_sp_l1Cur_spoilt I_sp_l1Cur_spoilt x)).map (keepRet tt K_sp_l1Cur_spoilt)).ev = ((T_sp_l1Cur_spoilt x.1.2.1 x.1.2.2.1 x.2.1.1 x.2.1.2.1 x.2.1.2.2.1).map fun r => some ((((r.1, ()), ((r.2.1, (r.2.2.1, (r.2.2.2, ()))), ()))) : K_sp_l1Cur_spoilt.T)).ev := fun _ => by kernel_rfl

theorem o_sp_l1Cur_spoilt : LoopsOK E_sp_l1Cur_spoilt tt Z_sp_l1Cur_spoilt O_sp_l1Cur_spoilt C_sp_l1Cur_spoilt := by
  have h : loopsOf C_sp_l1Cur_spoilt = [] := by kernel_rfl
  unfold LoopsOK
  rw [h]
  exact fun _ h => absurd h List.not_mem_nil

theorem ok_sp_l1Cur_spoilt : FnOK prog E_sp_l1Cur_spoilt tt 70 D_sp_l1Cur_spoilt K_sp_l1Cur_spoilt Z_sp_l1Cur_spoilt O_sp_l1Cur_spoilt f70 C_sp_l1Cur_spoilt (fun x => T_sp_l1Cur_spoilt x.1.2.1 x.1.2.2.1 x.2.1.1 x.2.1.2.1 x.2.1.2.2.1) (fun r => ((r.1, ()), ((r.2.1, (r.2.2.1, (r.2.2.2, ()))), ()))) where
  at_ := func70
  name := by kernel_rfl
  body := by kernel_rfl
  res := by kernel_rfl
  ok := by kernel_rfl
  arity := fun _ => Nat.le_of_ble_eq_true (by kernel_rfl)
  pin := fun _ => by kernel_rfl
  chk := by kernel_rfl
  loops := o_sp_l1Cur_spoilt
  run := e_sp_l1Cur_spoilt
  F := fun _ => rfl
  emb := fun _ => rfl

theorem fd_sp_l1Cur_spoilt : FDok prog (70, D_sp_l1Cur_spoilt) := fn_ok mixed (env_ok (List.forall_mem_cons.2 ⟨fd_sp_l1Cur_pick, fun _ h => absurd h List.not_mem_nil⟩)) tabOK ok_sp_l1Cur_spoilt

theorem e_sp_l1Cur_anyLog : ∀ x : D_sp_l1Cur_anyLog.T, ((acode E_sp_l1Cur_anyLog tt Z_sp_l1Cur_anyLog (orcOf O_sp_l1Cur_anyLog) C_sp_l1Cur_anyLog (entry A_sp_l1Cur_anyLog I_sp_l1Cur_anyLog x)).map (keepRet tt K_sp_l1Cur_anyLog)).ev = ((T_sp_l1Cur_anyLog x.2.1.1 x.2.1.2.1 x.2.1.2.2.1).map fun r => some (((((r.1, (r.2.1, (r.2.2.1, ()))), ()), ((r.2.2.2.1, (r.2.2.2.2.1, (r.2.2.2.2.2, ()))), ()))) : K_sp_l1Cur_anyLog.T)).ev := fun _ => by kernel_rfl

theorem o_sp_l1Cur_anyLog : LoopsOK E_sp_l1Cur_anyLog tt Z_sp_l1Cur_anyLog O_sp_l1Cur_anyLog C_sp_l1Cur_anyLog := by
  have h : loopsOf C_sp_l1Cur_anyLog = [] := by kernel_rfl
  unfold LoopsOK
  rw [h]
  exact fun _ h => absurd h List.not_mem_nil

theorem ok_sp_l1Cur_anyLog : FnOK prog E_sp_l1Cur_anyLog tt 64 D_sp_l1Cur_anyLog K_sp_l1Cur_anyLog Z_sp_l1Cur_anyLog O_sp_l1Cur_anyLog f64 C_sp_l1Cur_anyLog (fun x => T_sp_l1Cur_anyLog x.2.1.1 x.2.1.2.1 x.2.1.2.2.1) (fun r => (((r.1, (r.2.1, (r.2.2.1, ()))), ()), ((r.2.2.2.1, (r.2.2.2.2.1, (r.2.2.2.2.2, ()))), ()))) where
  at_ := func64
  name := by kernel_rfl
  body := by kernel_rfl
  res := by kernel_rfl
  ok := by kernel_rfl
  arity := fun _ => Nat.le_of_ble_eq_true (by kernel_rfl)
  pin := fun _ => by kernel_rfl
  chk := by kernel_rfl
  loops := o_sp_l1Cur_anyLog
  run := e_sp_l1Cur_anyLog
  F := fun _ => rfl
  emb := fun _ => rfl

theorem fd_sp_l1Cur_anyLog : FDok prog (64, D_sp_l1Cur_anyLog) := fn_ok mixed (env_ok (List.forall_mem_cons.2 ⟨fd_sp_l1Cur_log12, List.forall_mem_cons.2 ⟨fd_sp_l1Cur_pick, List.forall_mem_cons.2 ⟨fd_sp_l1Cur_spoilt, fun _ h => absurd h List.not_mem_nil⟩⟩⟩)) tabOK ok_sp_l1Cur_anyLog

theorem e_sp_DrawCrashLog : ∀ x : D_sp_DrawCrashLog.T, ((acode E_sp_DrawCrashLog tt Z_sp_DrawCrashLog (orcOf O_sp_DrawCrashLog) C_sp_DrawCrashLog (entry A_sp_DrawCrashLog I_sp_DrawCrashLog x)).map (keepRet tt K_sp_DrawCrashLog)).ev = ((T_sp_DrawCrashLog x.1.1).map fun r => some (((((r.1, (r.2.1, (r.2.2.1, ()))), (r.2.2.2.1, (r.2.2.2.2, ()))), ())) : K_sp_DrawCrashLog.T)).ev := fun _ => by kernel_rfl

theorem o_sp_DrawCrashLog : LoopsOK E_sp_DrawCrashLog tt Z_sp_DrawCrashLog O_sp_DrawCrashLog C_sp_DrawCrashLog := by
  have h : loopsOf C_sp_DrawCrashLog = [] := by kernel_rfl
  unfold LoopsOK
  rw [h]
  exact fun _ h => absurd h List.not_mem_nil

theorem ok_sp_DrawCrashLog : FnOK prog E_sp_DrawCrashLog tt 44 D_sp_DrawCrashLog K_sp_DrawCrashLog Z_sp_DrawCrashLog O_sp_DrawCrashLog f44 C_sp_DrawCrashLog (fun x => T_sp_DrawCrashLog x.1.1) (fun r => (((r.1, (r.2.1, (r.2.2.1, ()))), (r.2.2.2.1, (r.2.2.2.2, ()))), ())) where
  at_ := func44
  name := by kernel_rfl
  body := by kernel_rfl
  res := by kernel_rfl
  ok := by kernel_rfl
  arity := fun _ => Nat.le_of_ble_eq_true (by kernel_rfl)
  pin := fun _ => by kernel_rfl
  chk := by kernel_rfl
  loops := o_sp_DrawCrashLog
  run := e_sp_DrawCrashLog
  F := fun _ => rfl
  emb := fun _ => rfl

theorem fd_sp_DrawCrashLog : FDok prog (44, D_sp_DrawCrashLog) := fn_ok mixed (env_ok (List.forall_mem_cons.2 ⟨fd_sp_l1Cur_anyLog, List.forall_mem_cons.2 ⟨fd_sp_l1Cur_pick, List.forall_mem_cons.2 ⟨fd_sp_l1Cur_one, fun _ h => absurd h List.not_mem_nil⟩⟩⟩)) tabOK ok_sp_DrawCrashLog

theorem e_lw_vCut : ∀ x : D_lw_vCut.T, ((acode E_lw_vCut tt Z_lw_vCut (orcOf O_lw_vCut) C_lw_vCut (entry A_lw_vCut I_lw_vCut x)).map (keepRet tt K_lw_vCut)).ev = ((T_lw_vCut x.1.1 x.1.2.1).map fun r => some (((((), ()), (r, ()))) : K_lw_vCut.T)).ev := fun _ => by kernel_rfl

theorem o_lw_vCut : LoopsOK E_lw_vCut tt Z_lw_vCut O_lw_vCut C_lw_vCut := by
  have h : loopsOf C_lw_vCut = [] := by kernel_rfl
  unfold LoopsOK
  rw [h]
  exact fun _ h => absurd h List.not_mem_nil

theorem ok_lw_vCut : FnOK prog E_lw_vCut tt 38 D_lw_vCut K_lw_vCut Z_lw_vCut O_lw_vCut f38 C_lw_vCut (fun x => T_lw_vCut x.1.1 x.1.2.1) (fun r => (((), ()), (r, ()))) where
  at_ := func38
  name := by kernel_rfl
  body := by kernel_rfl
  res := by kernel_rfl
  ok := by kernel_rfl
  arity := fun _ => Nat.le_of_ble_eq_true (by kernel_rfl)
  pin := fun _ => by kernel_rfl
  chk := by kernel_rfl
  loops := o_lw_vCut
  run := e_lw_vCut
  F := fun _ => rfl
  emb := fun _ => rfl

theorem fd_lw_vCut : FDok prog (38, D_lw_vCut) := fn_ok mixed (env_ok (fun _ h => absurd h List.not_mem_nil)) tabOK ok_lw_vCut

theorem e_sp_DrawRecoverLog : ∀ x : D_sp_DrawRecoverLog.T, ((acode E_sp_DrawRecoverLog tt Z_sp_DrawRecoverLog (orcOf O_sp_DrawRecoverLog) C_sp_DrawRecoverLog (entry A_sp_DrawRecoverLog I_sp_DrawRecoverLog x)).map (keepRet tt K_sp_DrawRecoverLog)).ev = ((T_sp_DrawRecoverLog x.1.1).map fun r => some ((((r, ()), ())) : K_sp_DrawRecoverLog.T)).ev := fun _ => by kernel_rfl

theorem o_sp_DrawRecoverLog : LoopsOK E_sp_DrawRecoverLog tt Z_sp_DrawRecoverLog O_sp_DrawRecoverLog C_sp_DrawRecoverLog := by
  have h : loopsOf C_sp_DrawRecoverLog = [] := by kernel_rfl
  unfold LoopsOK
  rw [h]
  exact fun _ h => absurd h List.not_mem_nil

theorem ok_sp_DrawRecoverLog : FnOK prog E_sp_DrawRecoverLog tt 45 D_sp_DrawRecoverLog K_sp_DrawRecoverLog Z_sp_DrawRecoverLog O_sp_DrawRecoverLog f45 C_sp_DrawRecoverLog (fun x => T_sp_DrawRecoverLog x.1.1) (fun r => ((r, ()), ())) where
  at_ := func45
  name := by kernel_rfl
  body := by kernel_rfl
  res := by kernel_rfl
  ok := by kernel_rfl
  arity := fun _ => Nat.le_of_ble_eq_true (by kernel_rfl)
  pin := fun _ => by kernel_rfl
  chk := by kernel_rfl
  loops := o_sp_DrawRecoverLog
  run := e_sp_DrawRecoverLog
  F := fun _ => rfl
  emb := fun _ => rfl

theorem fd_sp_DrawRecoverLog : FDok prog (45, D_sp_DrawRecoverLog) := fn_ok mixed (env_ok (List.forall_mem_cons.2 ⟨fd_sp_l1Cur_log12, List.forall_mem_cons.2 ⟨fd_sp_l1Cur_pick, List.forall_mem_cons.2 ⟨fd_sp_l1Cur_spoilt, List.forall_mem_cons.2 ⟨fd_sp_l1Cur_one, List.forall_mem_cons.2 ⟨fd_sp_l1Cur_logRecord, List.forall_mem_cons.2 ⟨fd_sp_l12Line, fun _ h => absurd h List.not_mem_nil⟩⟩⟩⟩⟩⟩)) tabOK ok_sp_DrawRecoverLog

theorem e_im_RecoverLog : ∀ x : D_im_RecoverLog.T, ((acode E_im_RecoverLog tt Z_im_RecoverLog (orcOf O_im_RecoverLog) C_im_RecoverLog (entry A_im_RecoverLog I_im_RecoverLog x)).map (keepRet tt K_im_RecoverLog)).ev = ((T_im_RecoverLog x.1.1).map fun r => some (((((r.1, (r.2.1, (r.2.2.1, ()))), (r.2.2.2.1, (r.2.2.2.2, ()))), ())) : K_im_RecoverLog.T)).ev := fun _ => by kernel_rfl

theorem o_im_RecoverLog : LoopsOK E_im_RecoverLog tt Z_im_RecoverLog O_im_RecoverLog C_im_RecoverLog := by
  have h : loopsOf C_im_RecoverLog = [] := by kernel_rfl
  unfold LoopsOK
  rw [h]
  exact fun _ h => absurd h List.not_mem_nil

theorem ok_im_RecoverLog : FnOK prog E_im_RecoverLog tt 18 D_im_RecoverLog K_im_RecoverLog Z_im_RecoverLog O_im_RecoverLog f18 C_im_RecoverLog (fun x => T_im_RecoverLog x.1.1) (fun r => (((r.1, (r.2.1, (r.2.2.1, ()))), (r.2.2.2.1, (r.2.2.2.2, ()))), ())) where
  at_ := func18
  name := by kernel_rfl
  body := by kernel_rfl
  res := by kernel_rfl
  ok := by kernel_rfl
  arity := fun _ => Nat.le_of_ble_eq_true (by kernel_rfl)
  pin := fun _ => by kernel_rfl
  chk := by kernel_rfl
  loops := o_im_RecoverLog
  run := e_im_RecoverLog
  F := fun _ => rfl
  emb := fun _ => rfl

theorem fd_im_RecoverLog : FDok prog (18, D_im_RecoverLog) := fn_ok mixed (env_ok (List.forall_mem_cons.2 ⟨fd_im_readRecords, fun _ h => absurd h List.not_mem_nil⟩)) tabOK ok_im_RecoverLog

theorem e_sp_RecoverLog : ∀ x : D_sp_RecoverLog.T, ((acode E_sp_RecoverLog tt Z_sp_RecoverLog (orcOf O_sp_RecoverLog) C_sp_RecoverLog (entry A_sp_RecoverLog I_sp_RecoverLog x)).map (keepRet tt K_sp_RecoverLog)).ev = ((T_sp_RecoverLog x.1.1).map fun r => some (((((r.1, (r.2.1, (r.2.2.1, ()))), (r.2.2.2.1, (r.2.2.2.2, ()))), ())) : K_sp_RecoverLog.T)).ev := fun _ => by kernel_rfl

theorem o_sp_RecoverLog : LoopsOK E_sp_RecoverLog tt Z_sp_RecoverLog O_sp_RecoverLog C_sp_RecoverLog := by
  have h : loopsOf C_sp_RecoverLog = [] := by kernel_rfl
  unfold LoopsOK
  rw [h]
  exact fun _ h => absurd h List.not_mem_nil

theorem ok_sp_RecoverLog : FnOK prog E_sp_RecoverLog tt 17 D_sp_RecoverLog K_sp_RecoverLog Z_sp_RecoverLog O_sp_RecoverLog f17 C_sp_RecoverLog (fun x => T_sp_RecoverLog x.1.1) (fun r => (((r.1, (r.2.1, (r.2.2.1, ()))), (r.2.2.2.1, (r.2.2.2.2, ()))), ())) where
  at_ := func17
  name := by kernel_rfl
  body := by kernel_rfl
  res := by kernel_rfl
  ok := by kernel_rfl
  arity := fun _ => Nat.le_of_ble_eq_true (by kernel_rfl)
  pin := fun _ => by kernel_rfl
  chk := by kernel_rfl
  loops := o_sp_RecoverLog
  run := e_sp_RecoverLog
  F := fun _ => rfl
  emb := fun _ => rfl

theorem fd_sp_RecoverLog : FDok prog (17, D_sp_RecoverLog) := fn_ok mixed (env_ok (List.forall_mem_cons.2 ⟨fd_sp_l12Open, fun _ h => absurd h List.not_mem_nil⟩)) tabOK ok_sp_RecoverLog

theorem e_im_LogRecords : ∀ x : D_im_LogRecords.T, ((acode E_im_LogRecords tt Z_im_LogRecords (orcOf O_im_LogRecords) C_im_LogRecords (entry A_im_LogRecords I_im_LogRecords x)).map (keepRet tt K_im_LogRecords)).ev = ((T_im_LogRecords x.1.1.1 x.1.1.2.1 x.1.1.2.2.1).map fun r => some (((((), (r.1, ())), (r.2, ()))) : K_im_LogRecords.T)).ev := fun _ => by kernel_rfl

theorem o_im_LogRecords : LoopsOK E_im_LogRecords tt Z_im_LogRecords O_im_LogRecords C_im_LogRecords := by
  have h : loopsOf C_im_LogRecords = [] := by kernel_rfl
  unfold LoopsOK
  rw [h]
  exact fun _ h => absurd h List.not_mem_nil

theorem ok_im_LogRecords : FnOK prog E_im_LogRecords tt 31 D_im_LogRecords K_im_LogRecords Z_im_LogRecords O_im_LogRecords f31 C_im_LogRecords (fun x => T_im_LogRecords x.1.1.1 x.1.1.2.1 x.1.1.2.2.1) (fun r => (((), (r.1, ())), (r.2, ()))) where
  at_ := func31
  name := by kernel_rfl
  body := by kernel_rfl
  res := by kernel_rfl
  ok := by kernel_rfl
  arity := fun _ => Nat.le_of_ble_eq_true (by kernel_rfl)
  pin := fun _ => by kernel_rfl
  chk := by kernel_rfl
  loops := o_im_LogRecords
  run := e_im_LogRecords
  F := fun _ => rfl
  emb := fun _ => rfl

theorem fd_im_LogRecords : FDok prog (31, D_im_LogRecords) := fn_ok mixed (env_ok (List.forall_mem_cons.2 ⟨fd_im_IsValidLog, List.forall_mem_cons.2 ⟨fd_im_readRecords, fun _ h => absurd h List.not_mem_nil⟩⟩)) tabOK ok_im_LogRecords

theorem e_lw_vRecords : ∀ x : D_lw_vRecords.T, ((acode E_lw_vRecords tt Z_lw_vRecords (orcOf O_lw_vRecords) C_lw_vRecords (entry A_lw_vRecords I_lw_vRecords x)).map (keepRet tt K_lw_vRecords)).ev = ((T_lw_vRecords x.1.1 x.1.2.1).map fun r => some ((((r, ()), ())) : K_lw_vRecords.T)).ev := fun _ => by kernel_rfl

noncomputable def B_lw_vRecords_0 : Code := ((loopsOf C_lw_vRecords).find? fun p => Nat.beq p.1 0).elim .skip (·.2)
theorem l_lw_vRecords_0 : (DL_lw_vRecords_0).OK E_lw_vRecords tt Z_lw_vRecords (orcOf O_lw_vRecords) B_lw_vRecords_0 where
  ok := by kernel_rfl
  oke := by kernel_rfl
  okr := by kernel_rfl
  eta := fun _ => rfl
  step := fun _ _ => by kernel_rfl

theorem o_lw_vRecords : LoopsOK E_lw_vRecords tt Z_lw_vRecords O_lw_vRecords C_lw_vRecords := by
  have h : loopsOf C_lw_vRecords = [(0, B_lw_vRecords_0)] := by kernel_rfl
  unfold LoopsOK
  rw [h]
  exact List.forall_mem_cons.2 ⟨fun d h => (by have e : some (DL_lw_vRecords_0) = some d := h; cases e; exact l_lw_vRecords_0), fun _ h => absurd h List.not_mem_nil⟩

theorem ok_lw_vRecords : FnOK prog E_lw_vRecords tt 43 D_lw_vRecords K_lw_vRecords Z_lw_vRecords O_lw_vRecords f43 C_lw_vRecords (fun x => T_lw_vRecords x.1.1 x.1.2.1) (fun r => ((r, ()), ())) where
  at_ := func43
  name := by kernel_rfl
  body := by kernel_rfl
  res := by kernel_rfl
  ok := by kernel_rfl
  arity := fun _ => Nat.le_of_ble_eq_true (by kernel_rfl)
  pin := fun _ => by kernel_rfl
  chk := by kernel_rfl
  loops := o_lw_vRecords
  run := e_lw_vRecords
  F := fun _ => rfl
  emb := fun _ => rfl

theorem fd_lw_vRecords : FDok prog (43, D_lw_vRecords) := fn_ok mixed (env_ok (fun _ h => absurd h List.not_mem_nil)) tabOK ok_lw_vRecords

theorem e_lw_FnCrashes : ∀ x : D_lw_FnCrashes.T, ((acode E_lw_FnCrashes tt Z_lw_FnCrashes (orcOf O_lw_FnCrashes) C_lw_FnCrashes (entry A_lw_FnCrashes I_lw_FnCrashes x)).map (keepRet tt K_lw_FnCrashes)).ev = ((T_lw_FnCrashes x.1.1).map fun r => some ((((r, ()), ())) : K_lw_FnCrashes.T)).ev := fun _ => by kernel_rfl

theorem o_lw_FnCrashes : LoopsOK E_lw_FnCrashes tt Z_lw_FnCrashes O_lw_FnCrashes C_lw_FnCrashes := by
  have h : loopsOf C_lw_FnCrashes = [] := by kernel_rfl
  unfold LoopsOK
  rw [h]
  exact fun _ h => absurd h List.not_mem_nil

theorem ok_lw_FnCrashes : FnOK prog E_lw_FnCrashes tt 11 D_lw_FnCrashes K_lw_FnCrashes Z_lw_FnCrashes O_lw_FnCrashes f11 C_lw_FnCrashes (fun x => T_lw_FnCrashes x.1.1) (fun r => ((r, ()), ())) where
  at_ := func11
  name := by kernel_rfl
  body := by kernel_rfl
  res := by kernel_rfl
  ok := by kernel_rfl
  arity := fun _ => Nat.le_of_ble_eq_true (by kernel_rfl)
  pin := fun _ => by kernel_rfl
  chk := by kernel_rfl
  loops := o_lw_FnCrashes
  run := e_lw_FnCrashes
  F := fun _ => rfl
  emb := fun _ => rfl

theorem fd_lw_FnCrashes : FDok prog (11, D_lw_FnCrashes) := fn_ok mixed (env_ok (List.forall_mem_cons.2 ⟨fd_lw_vBig, List.forall_mem_cons.2 ⟨fd_sp_DrawCrashLog, List.forall_mem_cons.2 ⟨fd_im_CrashLog, List.forall_mem_cons.2 ⟨fd_sp_CrashLog, List.forall_mem_cons.2 ⟨fd_lw_vCut, List.forall_mem_cons.2 ⟨fd_sp_DrawRecoverLog, List.forall_mem_cons.2 ⟨fd_im_RecoverLog, List.forall_mem_cons.2 ⟨fd_sp_RecoverLog, List.forall_mem_cons.2 ⟨fd_im_IsValidLog, List.forall_mem_cons.2 ⟨fd_im_LogRecords, List.forall_mem_cons.2 ⟨fd_lw_vRecords, fun _ h => absurd h List.not_mem_nil⟩⟩⟩⟩⟩⟩⟩⟩⟩⟩⟩)) tabOK ok_lw_FnCrashes
end Go.Proofs.YtakbhfnndcnopaaDoor
