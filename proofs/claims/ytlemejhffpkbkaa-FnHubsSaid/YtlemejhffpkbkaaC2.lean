import Derived.Test.YtlemejhffpkbkaaC1
namespace Go.Proofs.Ytlemejhffpkbkaa
open Go.Proofs.Try
theorem mixed : prog.follows .mixedOrders = true := by kernel_rfl
theorem tabOK : TabOK prog tt := tab_ok (by kernel_rfl)
theorem e_lw_rBig : ∀ x : D_lw_rBig.T, ((acode E_lw_rBig tt Z_lw_rBig (orcOf O_lw_rBig) C_lw_rBig (entry A_lw_rBig I_lw_rBig x)).map (keepRet tt K_lw_rBig)).ev = ((T_lw_rBig x.1.1).map fun r => some ((((r, ()), ())) : K_lw_rBig.T)).ev := fun _ => by kernel_rfl
theorem o_lw_rBig : LoopsOK E_lw_rBig tt Z_lw_rBig O_lw_rBig C_lw_rBig := by
  have h : loopsOf C_lw_rBig = [] := by kernel_rfl
  unfold LoopsOK
  rw [h]
  exact fun _ h => absurd h List.not_mem_nil
theorem ok_lw_rBig : FnOK prog E_lw_rBig tt 51 D_lw_rBig K_lw_rBig Z_lw_rBig O_lw_rBig f51 C_lw_rBig (fun x => T_lw_rBig x.1.1) (fun r => ((r, ()), ())) where
  at_ := func51
  name := by kernel_rfl
  body := by kernel_rfl
  res := by kernel_rfl
  ok := by kernel_rfl
  arity := fun _ => Nat.le_of_ble_eq_true (by kernel_rfl)
  pin := fun _ => by kernel_rfl
  chk := by kernel_rfl
  loops := o_lw_rBig
  run := e_lw_rBig
  F := fun _ => rfl
  emb := fun _ => rfl
theorem fd_lw_rBig : FDok prog (51, D_lw_rBig) := fn_ok mixed (env_ok (fun _ h => absurd h List.not_mem_nil)) tabOK ok_lw_rBig
theorem e_sp_l1Cur_next : ∀ x : D_sp_l1Cur_next.T, ((acode E_sp_l1Cur_next tt Z_sp_l1Cur_next (orcOf O_sp_l1Cur_next) C_sp_l1Cur_next (entry A_sp_l1Cur_next I_sp_l1Cur_next x)).map (keepRet tt K_sp_l1Cur_next)).ev = ((T_sp_l1Cur_next x.2.1.1 x.2.1.2.1 x.2.1.2.2.1).map fun r => some ((((r.1, ()), ((r.2.1, (r.2.2.1, (r.2.2.2, ()))), ()))) : K_sp_l1Cur_next.T)).ev := fun _ => by kernel_rfl
theorem o_sp_l1Cur_next : LoopsOK E_sp_l1Cur_next tt Z_sp_l1Cur_next O_sp_l1Cur_next C_sp_l1Cur_next := by
  have h : loopsOf C_sp_l1Cur_next = [] := by kernel_rfl
  unfold LoopsOK
  rw [h]
  exact fun _ h => absurd h List.not_mem_nil
theorem ok_sp_l1Cur_next : FnOK prog E_sp_l1Cur_next tt 201 D_sp_l1Cur_next K_sp_l1Cur_next Z_sp_l1Cur_next O_sp_l1Cur_next f201 C_sp_l1Cur_next (fun x => T_sp_l1Cur_next x.2.1.1 x.2.1.2.1 x.2.1.2.2.1) (fun r => ((r.1, ()), ((r.2.1, (r.2.2.1, (r.2.2.2, ()))), ()))) where
  at_ := func201
  name := by kernel_rfl
  body := by kernel_rfl
  res := by kernel_rfl
  ok := by kernel_rfl
  arity := fun _ => Nat.le_of_ble_eq_true (by kernel_rfl)
  pin := fun _ => by kernel_rfl
  chk := by kernel_rfl
  loops := o_sp_l1Cur_next
  run := e_sp_l1Cur_next
  F := fun _ => rfl
  emb := fun _ => rfl
theorem fd_sp_l1Cur_next : FDok prog (201, D_sp_l1Cur_next) := fn_ok mixed (env_ok (fun _ h => absurd h List.not_mem_nil)) tabOK ok_sp_l1Cur_next
theorem e_sp_l1Cur_pick : ∀ x : D_sp_l1Cur_pick.T, ((acode E_sp_l1Cur_pick tt Z_sp_l1Cur_pick (orcOf O_sp_l1Cur_pick) C_sp_l1Cur_pick (entry A_sp_l1Cur_pick I_sp_l1Cur_pick x)).map (keepRet tt K_sp_l1Cur_pick)).ev = ((T_sp_l1Cur_pick x.1.2.1 x.2.1.1 x.2.1.2.1 x.2.1.2.2.1).map fun r => some ((((r.1, ()), ((r.2.1, (r.2.2.1, (r.2.2.2, ()))), ()))) : K_sp_l1Cur_pick.T)).ev := fun _ => by kernel_rfl
theorem o_sp_l1Cur_pick : LoopsOK E_sp_l1Cur_pick tt Z_sp_l1Cur_pick O_sp_l1Cur_pick C_sp_l1Cur_pick := by
  have h : loopsOf C_sp_l1Cur_pick = [] := by kernel_rfl
  unfold LoopsOK
  rw [h]
  exact fun _ h => absurd h List.not_mem_nil
theorem ok_sp_l1Cur_pick : FnOK prog E_sp_l1Cur_pick tt 176 D_sp_l1Cur_pick K_sp_l1Cur_pick Z_sp_l1Cur_pick O_sp_l1Cur_pick f176 C_sp_l1Cur_pick (fun x => T_sp_l1Cur_pick x.1.2.1 x.2.1.1 x.2.1.2.1 x.2.1.2.2.1) (fun r => ((r.1, ()), ((r.2.1, (r.2.2.1, (r.2.2.2, ()))), ()))) where
  at_ := func176
  name := by kernel_rfl
  body := by kernel_rfl
  res := by kernel_rfl
  ok := by kernel_rfl
  arity := fun _ => Nat.le_of_ble_eq_true (by kernel_rfl)
  pin := fun _ => by kernel_rfl
  chk := by kernel_rfl
  loops := o_sp_l1Cur_pick
  run := e_sp_l1Cur_pick
  F := fun _ => rfl
  emb := fun _ => rfl
theorem fd_sp_l1Cur_pick : FDok prog (176, D_sp_l1Cur_pick) := fn_ok mixed (env_ok (List.forall_mem_cons.2 ⟨fd_sp_l1Cur_next, fun _ h => absurd h List.not_mem_nil⟩)) tabOK ok_sp_l1Cur_pick
theorem e_sp_l1Cur_among : ∀ x : D_sp_l1Cur_among.T, ((acode E_sp_l1Cur_among tt Z_sp_l1Cur_among (orcOf O_sp_l1Cur_among) C_sp_l1Cur_among (entry A_sp_l1Cur_among I_sp_l1Cur_among x)).map (keepRet tt K_sp_l1Cur_among)).ev = ((T_sp_l1Cur_among x.1.2.1 x.2.1.1 x.2.1.2.1 x.2.1.2.2.1).map fun r => some ((((r.1, ()), ((r.2.1, (r.2.2.1, (r.2.2.2, ()))), ()))) : K_sp_l1Cur_among.T)).ev := fun _ => by kernel_rfl
theorem o_sp_l1Cur_among : LoopsOK E_sp_l1Cur_among tt Z_sp_l1Cur_among O_sp_l1Cur_among C_sp_l1Cur_among := by
  have h : loopsOf C_sp_l1Cur_among = [] := by kernel_rfl
  unfold LoopsOK
  rw [h]
  exact fun _ h => absurd h List.not_mem_nil
theorem ok_sp_l1Cur_among : FnOK prog E_sp_l1Cur_among tt 128 D_sp_l1Cur_among K_sp_l1Cur_among Z_sp_l1Cur_among O_sp_l1Cur_among f128 C_sp_l1Cur_among (fun x => T_sp_l1Cur_among x.1.2.1 x.2.1.1 x.2.1.2.1 x.2.1.2.2.1) (fun r => ((r.1, ()), ((r.2.1, (r.2.2.1, (r.2.2.2, ()))), ()))) where
  at_ := func128
  name := by kernel_rfl
  body := by kernel_rfl
  res := by kernel_rfl
  ok := by kernel_rfl
  arity := fun _ => Nat.le_of_ble_eq_true (by kernel_rfl)
  pin := fun _ => by kernel_rfl
  chk := by kernel_rfl
  loops := o_sp_l1Cur_among
  run := e_sp_l1Cur_among
  F := fun _ => rfl
  emb := fun _ => rfl
theorem fd_sp_l1Cur_among : FDok prog (128, D_sp_l1Cur_among) := fn_ok mixed (env_ok (List.forall_mem_cons.2 ⟨fd_sp_l1Cur_pick, fun _ h => absurd h List.not_mem_nil⟩)) tabOK ok_sp_l1Cur_among
theorem e_sp_l1Least : ∀ x : D_sp_l1Least.T, ((acode E_sp_l1Least tt Z_sp_l1Least (orcOf O_sp_l1Least) C_sp_l1Least (entry A_sp_l1Least I_sp_l1Least x)).map (keepRet tt K_sp_l1Least)).ev = ((T_sp_l1Least x.1.1 x.1.2.1).map fun r => some ((((r, ()), ())) : K_sp_l1Least.T)).ev := fun _ => by kernel_rfl
theorem o_sp_l1Least : LoopsOK E_sp_l1Least tt Z_sp_l1Least O_sp_l1Least C_sp_l1Least := by
  have h : loopsOf C_sp_l1Least = [] := by kernel_rfl
  unfold LoopsOK
  rw [h]
  exact fun _ h => absurd h List.not_mem_nil
theorem ok_sp_l1Least : FnOK prog E_sp_l1Least tt 132 D_sp_l1Least K_sp_l1Least Z_sp_l1Least O_sp_l1Least f132 C_sp_l1Least (fun x => T_sp_l1Least x.1.1 x.1.2.1) (fun r => ((r, ()), ())) where
  at_ := func132
  name := by kernel_rfl
  body := by kernel_rfl
  res := by kernel_rfl
  ok := by kernel_rfl
  arity := fun _ => Nat.le_of_ble_eq_true (by kernel_rfl)
  pin := fun _ => by kernel_rfl
  chk := by kernel_rfl
  loops := o_sp_l1Least
  run := e_sp_l1Least
  F := fun _ => rfl
  emb := fun _ => rfl
theorem fd_sp_l1Least : FDok prog (132, D_sp_l1Least) := fn_ok mixed (env_ok (fun _ h => absurd h List.not_mem_nil)) tabOK ok_sp_l1Least
theorem e_sp_l1Cur_one : ∀ x : D_sp_l1Cur_one.T, ((acode E_sp_l1Cur_one tt Z_sp_l1Cur_one (orcOf O_sp_l1Cur_one) C_sp_l1Cur_one (entry A_sp_l1Cur_one I_sp_l1Cur_one x)).map (keepRet tt K_sp_l1Cur_one)).ev = ((T_sp_l1Cur_one x.1.2.1 x.2.1.1 x.2.1.2.1 x.2.1.2.2.1).map fun r => some ((((r.1, ()), ((r.2.1, (r.2.2.1, (r.2.2.2, ()))), ()))) : K_sp_l1Cur_one.T)).ev := fun _ => by kernel_rfl
theorem o_sp_l1Cur_one : LoopsOK E_sp_l1Cur_one tt Z_sp_l1Cur_one O_sp_l1Cur_one C_sp_l1Cur_one := by
  have h : loopsOf C_sp_l1Cur_one = [] := by kernel_rfl
  unfold LoopsOK
  rw [h]
  exact fun _ h => absurd h List.not_mem_nil
theorem ok_sp_l1Cur_one : FnOK prog E_sp_l1Cur_one tt 175 D_sp_l1Cur_one K_sp_l1Cur_one Z_sp_l1Cur_one O_sp_l1Cur_one f175 C_sp_l1Cur_one (fun x => T_sp_l1Cur_one x.1.2.1 x.2.1.1 x.2.1.2.1 x.2.1.2.2.1) (fun r => ((r.1, ()), ((r.2.1, (r.2.2.1, (r.2.2.2, ()))), ()))) where
  at_ := func175
  name := by kernel_rfl
  body := by kernel_rfl
  res := by kernel_rfl
  ok := by kernel_rfl
  arity := fun _ => Nat.le_of_ble_eq_true (by kernel_rfl)
  pin := fun _ => by kernel_rfl
  chk := by kernel_rfl
  loops := o_sp_l1Cur_one
  run := e_sp_l1Cur_one
  F := fun _ => rfl
  emb := fun _ => rfl
theorem fd_sp_l1Cur_one : FDok prog (175, D_sp_l1Cur_one) := fn_ok mixed (env_ok (List.forall_mem_cons.2 ⟨fd_sp_l1Cur_pick, fun _ h => absurd h List.not_mem_nil⟩)) tabOK ok_sp_l1Cur_one
theorem e_sp_l1Most : ∀ x : D_sp_l1Most.T, ((acode E_sp_l1Most tt Z_sp_l1Most (orcOf O_sp_l1Most) C_sp_l1Most (entry A_sp_l1Most I_sp_l1Most x)).map (keepRet tt K_sp_l1Most)).ev = ((T_sp_l1Most x.1.1 x.1.2.1).map fun r => some ((((r, ()), ())) : K_sp_l1Most.T)).ev := fun _ => by kernel_rfl
theorem o_sp_l1Most : LoopsOK E_sp_l1Most tt Z_sp_l1Most O_sp_l1Most C_sp_l1Most := by
  have h : loopsOf C_sp_l1Most = [] := by kernel_rfl
  unfold LoopsOK
  rw [h]
  exact fun _ h => absurd h List.not_mem_nil
theorem ok_sp_l1Most : FnOK prog E_sp_l1Most tt 177 D_sp_l1Most K_sp_l1Most Z_sp_l1Most O_sp_l1Most f177 C_sp_l1Most (fun x => T_sp_l1Most x.1.1 x.1.2.1) (fun r => ((r, ()), ())) where
  at_ := func177
  name := by kernel_rfl
  body := by kernel_rfl
  res := by kernel_rfl
  ok := by kernel_rfl
  arity := fun _ => Nat.le_of_ble_eq_true (by kernel_rfl)
  pin := fun _ => by kernel_rfl
  chk := by kernel_rfl
  loops := o_sp_l1Most
  run := e_sp_l1Most
  F := fun _ => rfl
  emb := fun _ => rfl
theorem fd_sp_l1Most : FDok prog (177, D_sp_l1Most) := fn_ok mixed (env_ok (fun _ h => absurd h List.not_mem_nil)) tabOK ok_sp_l1Most
theorem e_sp_l1Cur_ground : ∀ x : D_sp_l1Cur_ground.T, ((acode E_sp_l1Cur_ground tt Z_sp_l1Cur_ground (orcOf O_sp_l1Cur_ground) C_sp_l1Cur_ground (entry A_sp_l1Cur_ground I_sp_l1Cur_ground x)).map (keepRet tt K_sp_l1Cur_ground)).ev = ((T_sp_l1Cur_ground x.1.2.1 x.2.1.1 x.2.1.2.1 x.2.1.2.2.1).map fun r => some (((((), ()), (r.1, ((r.2.1, (r.2.2.1, (r.2.2.2, ()))), ())))) : K_sp_l1Cur_ground.T)).ev := fun _ => by kernel_rfl
noncomputable def B_sp_l1Cur_ground_0 : Code := ((loopsOf C_sp_l1Cur_ground).find? fun p => Nat.beq p.1 0).elim .skip (·.2)
theorem l_sp_l1Cur_ground_0 : (DL_sp_l1Cur_ground_0).OK E_sp_l1Cur_ground tt Z_sp_l1Cur_ground (orcOf O_sp_l1Cur_ground) B_sp_l1Cur_ground_0 where
  ok := by kernel_rfl
  oke := by kernel_rfl
  okr := by kernel_rfl
  eta := fun _ => rfl
  step := fun _ _ => by kernel_rfl
noncomputable def B_sp_l1Cur_ground_4 : Code := ((loopsOf C_sp_l1Cur_ground).find? fun p => Nat.beq p.1 4).elim .skip (·.2)
theorem l_sp_l1Cur_ground_4 : (DL_sp_l1Cur_ground_4).OK E_sp_l1Cur_ground tt Z_sp_l1Cur_ground (orcOf O_sp_l1Cur_ground) B_sp_l1Cur_ground_4 where
  ok := by kernel_rfl
  oke := by kernel_rfl
  okr := by kernel_rfl
  eta := fun _ => rfl
  step := fun _ _ => by kernel_rfl
noncomputable def B_sp_l1Cur_ground_2 : Code := ((loopsOf C_sp_l1Cur_ground).find? fun p => Nat.beq p.1 2).elim .skip (·.2)
theorem l_sp_l1Cur_ground_2 : (DL_sp_l1Cur_ground_2).OK E_sp_l1Cur_ground tt Z_sp_l1Cur_ground (orcOf O_sp_l1Cur_ground) B_sp_l1Cur_ground_2 where
  ok := by kernel_rfl
  oke := by kernel_rfl
  okr := by kernel_rfl
  eta := fun _ => rfl
  step := fun _ _ => by kernel_rfl
noncomputable def B_sp_l1Cur_ground_12 : Code := ((loopsOf C_sp_l1Cur_ground).find? fun p => Nat.beq p.1 12).elim .skip (·.2)
theorem l_sp_l1Cur_ground_12 : (DL_sp_l1Cur_ground_12).OK E_sp_l1Cur_ground tt Z_sp_l1Cur_ground (orcOf O_sp_l1Cur_ground) B_sp_l1Cur_ground_12 where
  ok := by kernel_rfl
  oke := by kernel_rfl
  okr := by kernel_rfl
  eta := fun _ => rfl
  step := fun _ _ => by kernel_rfl
noncomputable def B_sp_l1Cur_ground_10 : Code := ((loopsOf C_sp_l1Cur_ground).find? fun p => Nat.beq p.1 10).elim .skip (·.2)
theorem l_sp_l1Cur_ground_10 : (DL_sp_l1Cur_ground_10).OK E_sp_l1Cur_ground tt Z_sp_l1Cur_ground (orcOf O_sp_l1Cur_ground) B_sp_l1Cur_ground_10 where
  ok := by kernel_rfl
  oke := by kernel_rfl
  okr := by kernel_rfl
  eta := fun _ => rfl
  step := fun _ _ => by kernel_rfl
noncomputable def B_sp_l1Cur_ground_8 : Code := ((loopsOf C_sp_l1Cur_ground).find? fun p => Nat.beq p.1 8).elim .skip (·.2)
theorem l_sp_l1Cur_ground_8 : (DL_sp_l1Cur_ground_8).OK E_sp_l1Cur_ground tt Z_sp_l1Cur_ground (orcOf O_sp_l1Cur_ground) B_sp_l1Cur_ground_8 where
  ok := by kernel_rfl
  oke := by kernel_rfl
  okr := by kernel_rfl
  eta := fun _ => rfl
  step := fun _ _ => by kernel_rfl
noncomputable def B_sp_l1Cur_ground_6 : Code := ((loopsOf C_sp_l1Cur_ground).find? fun p => Nat.beq p.1 6).elim .skip (·.2)
theorem l_sp_l1Cur_ground_6 : (DL_sp_l1Cur_ground_6).OK E_sp_l1Cur_ground tt Z_sp_l1Cur_ground (orcOf O_sp_l1Cur_ground) B_sp_l1Cur_ground_6 where
  ok := by kernel_rfl
  oke := by kernel_rfl
  okr := by kernel_rfl
  eta := fun _ => rfl
  step := fun _ _ => by kernel_rfl
theorem o_sp_l1Cur_ground : LoopsOK E_sp_l1Cur_ground tt Z_sp_l1Cur_ground O_sp_l1Cur_ground C_sp_l1Cur_ground := by
  have h : loopsOf C_sp_l1Cur_ground = [(0, B_sp_l1Cur_ground_0), (2, B_sp_l1Cur_ground_2), (4, B_sp_l1Cur_ground_4), (6, B_sp_l1Cur_ground_6), (8, B_sp_l1Cur_ground_8), (10, B_sp_l1Cur_ground_10), (12, B_sp_l1Cur_ground_12)] := by kernel_rfl
  unfold LoopsOK
  rw [h]
  exact List.forall_mem_cons.2 ⟨fun d h => (by have e : some (DL_sp_l1Cur_ground_0) = some d := h; cases e; exact l_sp_l1Cur_ground_0), List.forall_mem_cons.2 ⟨fun d h => (by have e : some (DL_sp_l1Cur_ground_2) = some d := h; cases e; exact l_sp_l1Cur_ground_2), List.forall_mem_cons.2 ⟨fun d h => (by have e : some (DL_sp_l1Cur_ground_4) = some d := h; cases e; exact l_sp_l1Cur_ground_4), List.forall_mem_cons.2 ⟨fun d h => (by have e : some (DL_sp_l1Cur_ground_6) = some d := h; cases e; exact l_sp_l1Cur_ground_6), List.forall_mem_cons.2 ⟨fun d h => (by have e : some (DL_sp_l1Cur_ground_8) = some d := h; cases e; exact l_sp_l1Cur_ground_8), List.forall_mem_cons.2 ⟨fun d h => (by have e : some (DL_sp_l1Cur_ground_10) = some d := h; cases e; exact l_sp_l1Cur_ground_10), List.forall_mem_cons.2 ⟨fun d h => (by have e : some (DL_sp_l1Cur_ground_12) = some d := h; cases e; exact l_sp_l1Cur_ground_12), fun _ h => absurd h List.not_mem_nil⟩⟩⟩⟩⟩⟩⟩
theorem ok_sp_l1Cur_ground : FnOK prog E_sp_l1Cur_ground tt 121 D_sp_l1Cur_ground K_sp_l1Cur_ground Z_sp_l1Cur_ground O_sp_l1Cur_ground f121 C_sp_l1Cur_ground (fun x => T_sp_l1Cur_ground x.1.2.1 x.2.1.1 x.2.1.2.1 x.2.1.2.2.1) (fun r => (((), ()), (r.1, ((r.2.1, (r.2.2.1, (r.2.2.2, ()))), ())))) where
  at_ := func121
  name := by kernel_rfl
  body := by kernel_rfl
  res := by kernel_rfl
  ok := by kernel_rfl
  arity := fun _ => Nat.le_of_ble_eq_true (by kernel_rfl)
  pin := fun _ => by kernel_rfl
  chk := by kernel_rfl
  loops := o_sp_l1Cur_ground
  run := e_sp_l1Cur_ground
  F := fun _ => rfl
  emb := fun _ => rfl
theorem fd_sp_l1Cur_ground : FDok prog (121, D_sp_l1Cur_ground) := fn_ok mixed (env_ok (List.forall_mem_cons.2 ⟨fd_sp_l1Cur_among, List.forall_mem_cons.2 ⟨fd_sp_l1Least, List.forall_mem_cons.2 ⟨fd_sp_l1Cur_one, List.forall_mem_cons.2 ⟨fd_sp_l1Cur_pick, List.forall_mem_cons.2 ⟨fd_sp_l1Most, fun _ h => absurd h List.not_mem_nil⟩⟩⟩⟩⟩)) tabOK ok_sp_l1Cur_ground
theorem e_sp_l1Cur_flows : ∀ x : D_sp_l1Cur_flows.T, ((acode E_sp_l1Cur_flows tt Z_sp_l1Cur_flows (orcOf O_sp_l1Cur_flows) C_sp_l1Cur_flows (entry A_sp_l1Cur_flows I_sp_l1Cur_flows x)).map (keepRet tt K_sp_l1Cur_flows)).ev = ((T_sp_l1Cur_flows x.1.2.1 x.2.1.1 x.2.1.2.1 x.2.1.2.2.1).map fun r => some ((((r.1, ()), ((r.2.1, (r.2.2.1, (r.2.2.2, ()))), ()))) : K_sp_l1Cur_flows.T)).ev := fun _ => by kernel_rfl
noncomputable def B_sp_l1Cur_flows_2 : Code := ((loopsOf C_sp_l1Cur_flows).find? fun p => Nat.beq p.1 2).elim .skip (·.2)
theorem l_sp_l1Cur_flows_2 : (DL_sp_l1Cur_flows_2).OK E_sp_l1Cur_flows tt Z_sp_l1Cur_flows (orcOf O_sp_l1Cur_flows) B_sp_l1Cur_flows_2 where
  ok := by kernel_rfl
  oke := by kernel_rfl
  okr := by kernel_rfl
  eta := fun _ => rfl
  step := fun _ _ => by kernel_rfl
noncomputable def B_sp_l1Cur_flows_0 : Code := ((loopsOf C_sp_l1Cur_flows).find? fun p => Nat.beq p.1 0).elim .skip (·.2)
theorem l_sp_l1Cur_flows_0 : (DL_sp_l1Cur_flows_0).OK E_sp_l1Cur_flows tt Z_sp_l1Cur_flows (orcOf O_sp_l1Cur_flows) B_sp_l1Cur_flows_0 where
  ok := by kernel_rfl
  oke := by kernel_rfl
  okr := by kernel_rfl
  eta := fun _ => rfl
  step := fun _ _ => by kernel_rfl
theorem o_sp_l1Cur_flows : LoopsOK E_sp_l1Cur_flows tt Z_sp_l1Cur_flows O_sp_l1Cur_flows C_sp_l1Cur_flows := by
  have h : loopsOf C_sp_l1Cur_flows = [(0, B_sp_l1Cur_flows_0), (2, B_sp_l1Cur_flows_2)] := by kernel_rfl
  unfold LoopsOK
  rw [h]
  exact List.forall_mem_cons.2 ⟨fun d h => (by have e : some (DL_sp_l1Cur_flows_0) = some d := h; cases e; exact l_sp_l1Cur_flows_0), List.forall_mem_cons.2 ⟨fun d h => (by have e : some (DL_sp_l1Cur_flows_2) = some d := h; cases e; exact l_sp_l1Cur_flows_2), fun _ h => absurd h List.not_mem_nil⟩⟩
theorem ok_sp_l1Cur_flows : FnOK prog E_sp_l1Cur_flows tt 122 D_sp_l1Cur_flows K_sp_l1Cur_flows Z_sp_l1Cur_flows O_sp_l1Cur_flows f122 C_sp_l1Cur_flows (fun x => T_sp_l1Cur_flows x.1.2.1 x.2.1.1 x.2.1.2.1 x.2.1.2.2.1) (fun r => ((r.1, ()), ((r.2.1, (r.2.2.1, (r.2.2.2, ()))), ()))) where
  at_ := func122
  name := by kernel_rfl
  body := by kernel_rfl
  res := by kernel_rfl
  ok := by kernel_rfl
  arity := fun _ => Nat.le_of_ble_eq_true (by kernel_rfl)
  pin := fun _ => by kernel_rfl
  chk := by kernel_rfl
  loops := o_sp_l1Cur_flows
  run := e_sp_l1Cur_flows
  F := fun _ => rfl
  emb := fun _ => rfl
theorem fd_sp_l1Cur_flows : FDok prog (122, D_sp_l1Cur_flows) := fn_ok mixed (env_ok (List.forall_mem_cons.2 ⟨fd_sp_l1Cur_among, List.forall_mem_cons.2 ⟨fd_sp_l1Cur_pick, fun _ h => absurd h List.not_mem_nil⟩⟩)) tabOK ok_sp_l1Cur_flows
theorem e_sp_l1Cur_hubs : ∀ x : D_sp_l1Cur_hubs.T, ((acode E_sp_l1Cur_hubs tt Z_sp_l1Cur_hubs (orcOf O_sp_l1Cur_hubs) C_sp_l1Cur_hubs (entry A_sp_l1Cur_hubs I_sp_l1Cur_hubs x)).map (keepRet tt K_sp_l1Cur_hubs)).ev = ((T_sp_l1Cur_hubs x.1.2.1 x.2.1.1 x.2.1.2.1 x.2.1.2.2.1).map fun r => some (((((), ()), (r.1, ((r.2.1, (r.2.2.1, (r.2.2.2, ()))), ())))) : K_sp_l1Cur_hubs.T)).ev := fun _ => by kernel_rfl
noncomputable def B_sp_l1Cur_hubs_0 : Code := ((loopsOf C_sp_l1Cur_hubs).find? fun p => Nat.beq p.1 0).elim .skip (·.2)
theorem l_sp_l1Cur_hubs_0 : (DL_sp_l1Cur_hubs_0).OK E_sp_l1Cur_hubs tt Z_sp_l1Cur_hubs (orcOf O_sp_l1Cur_hubs) B_sp_l1Cur_hubs_0 where
  ok := by kernel_rfl
  oke := by kernel_rfl
  okr := by kernel_rfl
  eta := fun _ => rfl
  step := fun _ _ => by kernel_rfl
noncomputable def B_sp_l1Cur_hubs_4 : Code := ((loopsOf C_sp_l1Cur_hubs).find? fun p => Nat.beq p.1 4).elim .skip (·.2)
theorem l_sp_l1Cur_hubs_4 : (DL_sp_l1Cur_hubs_4).OK E_sp_l1Cur_hubs tt Z_sp_l1Cur_hubs (orcOf O_sp_l1Cur_hubs) B_sp_l1Cur_hubs_4 where
  ok := by kernel_rfl
  oke := by kernel_rfl
  okr := by kernel_rfl
  eta := fun _ => rfl
  step := fun _ _ => by kernel_rfl
noncomputable def B_sp_l1Cur_hubs_2 : Code := ((loopsOf C_sp_l1Cur_hubs).find? fun p => Nat.beq p.1 2).elim .skip (·.2)
theorem l_sp_l1Cur_hubs_2 : (DL_sp_l1Cur_hubs_2).OK E_sp_l1Cur_hubs tt Z_sp_l1Cur_hubs (orcOf O_sp_l1Cur_hubs) B_sp_l1Cur_hubs_2 where
  ok := by kernel_rfl
  oke := by kernel_rfl
  okr := by kernel_rfl
  eta := fun _ => rfl
  step := fun _ _ => by kernel_rfl
theorem o_sp_l1Cur_hubs : LoopsOK E_sp_l1Cur_hubs tt Z_sp_l1Cur_hubs O_sp_l1Cur_hubs C_sp_l1Cur_hubs := by
  have h : loopsOf C_sp_l1Cur_hubs = [(0, B_sp_l1Cur_hubs_0), (2, B_sp_l1Cur_hubs_2), (4, B_sp_l1Cur_hubs_4)] := by kernel_rfl
  unfold LoopsOK
  rw [h]
  exact List.forall_mem_cons.2 ⟨fun d h => (by have e : some (DL_sp_l1Cur_hubs_0) = some d := h; cases e; exact l_sp_l1Cur_hubs_0), List.forall_mem_cons.2 ⟨fun d h => (by have e : some (DL_sp_l1Cur_hubs_2) = some d := h; cases e; exact l_sp_l1Cur_hubs_2), List.forall_mem_cons.2 ⟨fun d h => (by have e : some (DL_sp_l1Cur_hubs_4) = some d := h; cases e; exact l_sp_l1Cur_hubs_4), fun _ h => absurd h List.not_mem_nil⟩⟩⟩
theorem ok_sp_l1Cur_hubs : FnOK prog E_sp_l1Cur_hubs tt 123 D_sp_l1Cur_hubs K_sp_l1Cur_hubs Z_sp_l1Cur_hubs O_sp_l1Cur_hubs f123 C_sp_l1Cur_hubs (fun x => T_sp_l1Cur_hubs x.1.2.1 x.2.1.1 x.2.1.2.1 x.2.1.2.2.1) (fun r => (((), ()), (r.1, ((r.2.1, (r.2.2.1, (r.2.2.2, ()))), ())))) where
  at_ := func123
  name := by kernel_rfl
  body := by kernel_rfl
  res := by kernel_rfl
  ok := by kernel_rfl
  arity := fun _ => Nat.le_of_ble_eq_true (by kernel_rfl)
  pin := fun _ => by kernel_rfl
  chk := by kernel_rfl
  loops := o_sp_l1Cur_hubs
  run := e_sp_l1Cur_hubs
  F := fun _ => rfl
  emb := fun _ => rfl
theorem fd_sp_l1Cur_hubs : FDok prog (123, D_sp_l1Cur_hubs) := fn_ok mixed (env_ok (List.forall_mem_cons.2 ⟨fd_sp_l1Cur_pick, List.forall_mem_cons.2 ⟨fd_sp_l1Cur_one, fun _ h => absurd h List.not_mem_nil⟩⟩)) tabOK ok_sp_l1Cur_hubs
theorem e_sp_l1Cur_discount : ∀ x : D_sp_l1Cur_discount.T, ((acode E_sp_l1Cur_discount tt Z_sp_l1Cur_discount (orcOf O_sp_l1Cur_discount) C_sp_l1Cur_discount (entry A_sp_l1Cur_discount I_sp_l1Cur_discount x)).map (keepRet tt K_sp_l1Cur_discount)).ev = ((T_sp_l1Cur_discount x.2.1.1 x.2.1.2.1 x.2.1.2.2.1).map fun r => some ((((r.1, ()), ((r.2.1, (r.2.2.1, (r.2.2.2, ()))), ()))) : K_sp_l1Cur_discount.T)).ev := fun _ => by kernel_rfl
theorem o_sp_l1Cur_discount : LoopsOK E_sp_l1Cur_discount tt Z_sp_l1Cur_discount O_sp_l1Cur_discount C_sp_l1Cur_discount := by
  have h : loopsOf C_sp_l1Cur_discount = [] := by kernel_rfl
  unfold LoopsOK
  rw [h]
  exact fun _ h => absurd h List.not_mem_nil
theorem ok_sp_l1Cur_discount : FnOK prog E_sp_l1Cur_discount tt 124 D_sp_l1Cur_discount K_sp_l1Cur_discount Z_sp_l1Cur_discount O_sp_l1Cur_discount f124 C_sp_l1Cur_discount (fun x => T_sp_l1Cur_discount x.2.1.1 x.2.1.2.1 x.2.1.2.2.1) (fun r => ((r.1, ()), ((r.2.1, (r.2.2.1, (r.2.2.2, ()))), ()))) where
  at_ := func124
  name := by kernel_rfl
  body := by kernel_rfl
  res := by kernel_rfl
  ok := by kernel_rfl
  arity := fun _ => Nat.le_of_ble_eq_true (by kernel_rfl)
  pin := fun _ => by kernel_rfl
  chk := by kernel_rfl
  loops := o_sp_l1Cur_discount
  run := e_sp_l1Cur_discount
  F := fun _ => rfl
  emb := fun _ => rfl
theorem fd_sp_l1Cur_discount : FDok prog (124, D_sp_l1Cur_discount) := fn_ok mixed (env_ok (List.forall_mem_cons.2 ⟨fd_sp_l1Cur_among, fun _ h => absurd h List.not_mem_nil⟩)) tabOK ok_sp_l1Cur_discount
theorem e_sp_DrawHubCost : ∀ x : D_sp_DrawHubCost.T, ((acode E_sp_DrawHubCost tt Z_sp_DrawHubCost (orcOf O_sp_DrawHubCost) C_sp_DrawHubCost (entry A_sp_DrawHubCost I_sp_DrawHubCost x)).map (keepRet tt K_sp_DrawHubCost)).ev = ((T_sp_DrawHubCost x.1.1).map fun r => some ((((r.1, (r.2.1, ((), (r.2.2.1, ())))), (r.2.2.2, ()))) : K_sp_DrawHubCost.T)).ev := fun _ => by kernel_rfl
theorem o_sp_DrawHubCost : LoopsOK E_sp_DrawHubCost tt Z_sp_DrawHubCost O_sp_DrawHubCost C_sp_DrawHubCost := by
  have h : loopsOf C_sp_DrawHubCost = [] := by kernel_rfl
  unfold LoopsOK
  rw [h]
  exact fun _ h => absurd h List.not_mem_nil
theorem ok_sp_DrawHubCost : FnOK prog E_sp_DrawHubCost tt 52 D_sp_DrawHubCost K_sp_DrawHubCost Z_sp_DrawHubCost O_sp_DrawHubCost f52 C_sp_DrawHubCost (fun x => T_sp_DrawHubCost x.1.1) (fun r => ((r.1, (r.2.1, ((), (r.2.2.1, ())))), (r.2.2.2, ()))) where
  at_ := func52
  name := by kernel_rfl
  body := by kernel_rfl
  res := by kernel_rfl
  ok := by kernel_rfl
  arity := fun _ => Nat.le_of_ble_eq_true (by kernel_rfl)
  pin := fun _ => by kernel_rfl
  chk := by kernel_rfl
  loops := o_sp_DrawHubCost
  run := e_sp_DrawHubCost
  F := fun _ => rfl
  emb := fun _ => rfl
theorem fd_sp_DrawHubCost : FDok prog (52, D_sp_DrawHubCost) := fn_ok mixed (env_ok (List.forall_mem_cons.2 ⟨fd_sp_l1Cur_ground, List.forall_mem_cons.2 ⟨fd_sp_l1Cur_flows, List.forall_mem_cons.2 ⟨fd_sp_l1Cur_hubs, List.forall_mem_cons.2 ⟨fd_sp_l1Cur_discount, fun _ h => absurd h List.not_mem_nil⟩⟩⟩⟩)) tabOK ok_sp_DrawHubCost
theorem e_slices_IndexFunc_Sint_int : ∀ x : D_slices_IndexFunc_Sint_int.T, ((acode E_slices_IndexFunc_Sint_int tt Z_slices_IndexFunc_Sint_int (orcOf O_slices_IndexFunc_Sint_int) C_slices_IndexFunc_Sint_int (entry A_slices_IndexFunc_Sint_int I_slices_IndexFunc_Sint_int x)).map (keepRet tt K_slices_IndexFunc_Sint_int)).ev = ((T_slices_IndexFunc_Sint_int x.1.1 x.1.2.1).map fun r => some ((((r, ()), ())) : K_slices_IndexFunc_Sint_int.T)).ev := fun _ => by kernel_rfl
noncomputable def B_slices_IndexFunc_Sint_int_0 : Code := ((loopsOf C_slices_IndexFunc_Sint_int).find? fun p => Nat.beq p.1 0).elim .skip (·.2)
theorem l_slices_IndexFunc_Sint_int_0 : (DL_slices_IndexFunc_Sint_int_0).OK E_slices_IndexFunc_Sint_int tt Z_slices_IndexFunc_Sint_int (orcOf O_slices_IndexFunc_Sint_int) B_slices_IndexFunc_Sint_int_0 where
  ok := by kernel_rfl
  oke := by kernel_rfl
  okr := by kernel_rfl
  eta := fun _ => rfl
  step := fun _ _ => by kernel_rfl
theorem o_slices_IndexFunc_Sint_int : LoopsOK E_slices_IndexFunc_Sint_int tt Z_slices_IndexFunc_Sint_int O_slices_IndexFunc_Sint_int C_slices_IndexFunc_Sint_int := by
  have h : loopsOf C_slices_IndexFunc_Sint_int = [(0, B_slices_IndexFunc_Sint_int_0)] := by kernel_rfl
  unfold LoopsOK
  rw [h]
  exact List.forall_mem_cons.2 ⟨fun d h => (by have e : some (DL_slices_IndexFunc_Sint_int_0) = some d := h; cases e; exact l_slices_IndexFunc_Sint_int_0), fun _ h => absurd h List.not_mem_nil⟩
theorem ok_slices_IndexFunc_Sint_int : FnOK prog E_slices_IndexFunc_Sint_int tt 152 D_slices_IndexFunc_Sint_int K_slices_IndexFunc_Sint_int Z_slices_IndexFunc_Sint_int O_slices_IndexFunc_Sint_int f152 C_slices_IndexFunc_Sint_int (fun x => T_slices_IndexFunc_Sint_int x.1.1 x.1.2.1) (fun r => ((r, ()), ())) where
  at_ := func152
  name := by kernel_rfl
  body := by kernel_rfl
  res := by kernel_rfl
  ok := by kernel_rfl
  arity := fun _ => Nat.le_of_ble_eq_true (by kernel_rfl)
  pin := fun _ => by kernel_rfl
  chk := by kernel_rfl
  loops := o_slices_IndexFunc_Sint_int
  run := e_slices_IndexFunc_Sint_int
  F := fun _ => rfl
  emb := fun _ => rfl
theorem fd_slices_IndexFunc_Sint_int : FDok prog (152, D_slices_IndexFunc_Sint_int) := fn_ok mixed (env_ok (fun _ h => absurd h List.not_mem_nil)) tabOK ok_slices_IndexFunc_Sint_int
theorem e_slices_ContainsFunc_Sint_int : ∀ x : D_slices_ContainsFunc_Sint_int.T, ((acode E_slices_ContainsFunc_Sint_int tt Z_slices_ContainsFunc_Sint_int (orcOf O_slices_ContainsFunc_Sint_int) C_slices_ContainsFunc_Sint_int (entry A_slices_ContainsFunc_Sint_int I_slices_ContainsFunc_Sint_int x)).map (keepRet tt K_slices_ContainsFunc_Sint_int)).ev = ((T_slices_ContainsFunc_Sint_int x.1.1 x.1.2.1).map fun r => some ((((r, ()), ())) : K_slices_ContainsFunc_Sint_int.T)).ev := fun _ => by kernel_rfl
theorem o_slices_ContainsFunc_Sint_int : LoopsOK E_slices_ContainsFunc_Sint_int tt Z_slices_ContainsFunc_Sint_int O_slices_ContainsFunc_Sint_int C_slices_ContainsFunc_Sint_int := by
  have h : loopsOf C_slices_ContainsFunc_Sint_int = [] := by kernel_rfl
  unfold LoopsOK
  rw [h]
  exact fun _ h => absurd h List.not_mem_nil
theorem ok_slices_ContainsFunc_Sint_int : FnOK prog E_slices_ContainsFunc_Sint_int tt 99 D_slices_ContainsFunc_Sint_int K_slices_ContainsFunc_Sint_int Z_slices_ContainsFunc_Sint_int O_slices_ContainsFunc_Sint_int f99 C_slices_ContainsFunc_Sint_int (fun x => T_slices_ContainsFunc_Sint_int x.1.1 x.1.2.1) (fun r => ((r, ()), ())) where
  at_ := func99
  name := by kernel_rfl
  body := by kernel_rfl
  res := by kernel_rfl
  ok := by kernel_rfl
  arity := fun _ => Nat.le_of_ble_eq_true (by kernel_rfl)
  pin := fun _ => by kernel_rfl
  chk := by kernel_rfl
  loops := o_slices_ContainsFunc_Sint_int
  run := e_slices_ContainsFunc_Sint_int
  F := fun _ => rfl
  emb := fun _ => rfl
theorem fd_slices_ContainsFunc_Sint_int : FDok prog (99, D_slices_ContainsFunc_Sint_int) := fn_ok mixed (env_ok (List.forall_mem_cons.2 ⟨fd_slices_IndexFunc_Sint_int, fun _ h => absurd h List.not_mem_nil⟩)) tabOK ok_slices_ContainsFunc_Sint_int
theorem e_im_between : ∀ x : D_im_between.T, ((acode E_im_between tt Z_im_between (orcOf O_im_between) C_im_between (entry A_im_between I_im_between x)).map (keepRet tt K_im_between)).ev = ((T_im_between x.1.1 x.1.2.1 x.1.2.2.1).map fun r => some ((((r, ()), ())) : K_im_between.T)).ev := fun _ => by kernel_rfl
theorem o_im_between : LoopsOK E_im_between tt Z_im_between O_im_between C_im_between := by
  have h : loopsOf C_im_between = [] := by kernel_rfl
  unfold LoopsOK
  rw [h]
  exact fun _ h => absurd h List.not_mem_nil
theorem ok_im_between : FnOK prog E_im_between tt 67 D_im_between K_im_between Z_im_between O_im_between f67 C_im_between (fun x => T_im_between x.1.1 x.1.2.1 x.1.2.2.1) (fun r => ((r, ()), ())) where
  at_ := func67
  name := by kernel_rfl
  body := by kernel_rfl
  res := by kernel_rfl
  ok := by kernel_rfl
  arity := fun _ => Nat.le_of_ble_eq_true (by kernel_rfl)
  pin := fun _ => by kernel_rfl
  chk := by kernel_rfl
  loops := o_im_between
  run := e_im_between
  F := fun _ => rfl
  emb := fun _ => rfl
theorem fd_im_between : FDok prog (67, D_im_between) := fn_ok mixed (env_ok (fun _ h => absurd h List.not_mem_nil)) tabOK ok_im_between
theorem e_im_areBetween_1 : ∀ x : D_im_areBetween_1.T, ((acode E_im_areBetween_1 tt Z_im_areBetween_1 (orcOf O_im_areBetween_1) C_im_areBetween_1 (entry A_im_areBetween_1 I_im_areBetween_1 x)).map (keepRet tt K_im_areBetween_1)).ev = ((T_im_areBetween_1 x.1.1 x.1.2.1.1 x.1.2.2.1.1).map fun r => some ((((r, ()), ())) : K_im_areBetween_1.T)).ev := fun _ => by kernel_rfl
theorem o_im_areBetween_1 : LoopsOK E_im_areBetween_1 tt Z_im_areBetween_1 O_im_areBetween_1 C_im_areBetween_1 := by
  have h : loopsOf C_im_areBetween_1 = [] := by kernel_rfl
  unfold LoopsOK
  rw [h]
  exact fun _ h => absurd h List.not_mem_nil
theorem ok_im_areBetween_1 : FnOK prog E_im_areBetween_1 tt 178 D_im_areBetween_1 K_im_areBetween_1 Z_im_areBetween_1 O_im_areBetween_1 f178 C_im_areBetween_1 (fun x => T_im_areBetween_1 x.1.1 x.1.2.1.1 x.1.2.2.1.1) (fun r => ((r, ()), ())) where
  at_ := func178
  name := by kernel_rfl
  body := by kernel_rfl
  res := by kernel_rfl
  ok := by kernel_rfl
  arity := fun _ => Nat.le_of_ble_eq_true (by kernel_rfl)
  pin := fun _ => by kernel_rfl
  chk := by kernel_rfl
  loops := o_im_areBetween_1
  run := e_im_areBetween_1
  F := fun _ => rfl
  emb := fun _ => rfl
theorem fd_im_areBetween_1 : FDok prog (178, D_im_areBetween_1) := fn_ok mixed (env_ok (List.forall_mem_cons.2 ⟨fd_im_between, fun _ h => absurd h List.not_mem_nil⟩)) tabOK ok_im_areBetween_1
theorem e_im_areBetween : ∀ x : D_im_areBetween.T, ((acode E_im_areBetween tt Z_im_areBetween (orcOf O_im_areBetween) C_im_areBetween (entry A_im_areBetween I_im_areBetween x)).map (keepRet tt K_im_areBetween)).ev = ((T_im_areBetween x.1.1 x.1.2.1 x.1.2.2.1).map fun r => some ((((r, ()), ())) : K_im_areBetween.T)).ev := fun _ => by kernel_rfl
theorem o_im_areBetween : LoopsOK E_im_areBetween tt Z_im_areBetween O_im_areBetween C_im_areBetween := by
  have h : loopsOf C_im_areBetween = [] := by kernel_rfl
  unfold LoopsOK
  rw [h]
  exact fun _ h => absurd h List.not_mem_nil
theorem ok_im_areBetween : FnOK prog E_im_areBetween tt 133 D_im_areBetween K_im_areBetween Z_im_areBetween O_im_areBetween f133 C_im_areBetween (fun x => T_im_areBetween x.1.1 x.1.2.1 x.1.2.2.1) (fun r => ((r, ()), ())) where
  at_ := func133
  name := by kernel_rfl
  body := by kernel_rfl
  res := by kernel_rfl
  ok := by kernel_rfl
  arity := fun _ => Nat.le_of_ble_eq_true (by kernel_rfl)
  pin := fun _ => by kernel_rfl
  chk := by kernel_rfl
  loops := o_im_areBetween
  run := e_im_areBetween
  F := fun _ => rfl
  emb := fun _ => rfl
theorem fd_im_areBetween : FDok prog (133, D_im_areBetween) := fn_ok mixed (env_ok (List.forall_mem_cons.2 ⟨fd_slices_ContainsFunc_Sint_int, List.forall_mem_cons.2 ⟨fd_slices_ContainsFunc_Sint_int, List.forall_mem_cons.2 ⟨fd_im_areBetween_1, fun _ h => absurd h List.not_mem_nil⟩⟩⟩)) tabOK ok_im_areBetween
theorem e_im_IsGround : ∀ x : D_im_IsGround.T, ((acode E_im_IsGround tt Z_im_IsGround (orcOf O_im_IsGround) C_im_IsGround (entry A_im_IsGround I_im_IsGround x)).map (keepRet tt K_im_IsGround)).ev = ((T_im_IsGround x.1.1).map fun r => some ((((r, ()), ())) : K_im_IsGround.T)).ev := fun _ => by kernel_rfl
noncomputable def B_im_IsGround_0 : Code := ((loopsOf C_im_IsGround).find? fun p => Nat.beq p.1 0).elim .skip (·.2)
theorem l_im_IsGround_0 : (DL_im_IsGround_0).OK E_im_IsGround tt Z_im_IsGround (orcOf O_im_IsGround) B_im_IsGround_0 where
  ok := by kernel_rfl
  oke := by kernel_rfl
  okr := by kernel_rfl
  eta := fun _ => rfl
  step := fun _ _ => by kernel_rfl
noncomputable def B_im_IsGround_4 : Code := ((loopsOf C_im_IsGround).find? fun p => Nat.beq p.1 4).elim .skip (·.2)
theorem l_im_IsGround_4 : (DL_im_IsGround_4).OK E_im_IsGround tt Z_im_IsGround (orcOf O_im_IsGround) B_im_IsGround_4 where
  ok := by kernel_rfl
  oke := by kernel_rfl
  okr := by kernel_rfl
  eta := fun _ => rfl
  step := fun _ _ => by kernel_rfl
noncomputable def B_im_IsGround_2 : Code := ((loopsOf C_im_IsGround).find? fun p => Nat.beq p.1 2).elim .skip (·.2)
theorem l_im_IsGround_2 : (DL_im_IsGround_2).OK E_im_IsGround tt Z_im_IsGround (orcOf O_im_IsGround) B_im_IsGround_2 where
  ok := by kernel_rfl
  oke := by kernel_rfl
  okr := by kernel_rfl
  eta := fun _ => rfl
  step := fun _ _ => by kernel_rfl
theorem o_im_IsGround : LoopsOK E_im_IsGround tt Z_im_IsGround O_im_IsGround C_im_IsGround := by
  have h : loopsOf C_im_IsGround = [(0, B_im_IsGround_0), (2, B_im_IsGround_2), (4, B_im_IsGround_4)] := by kernel_rfl
  unfold LoopsOK
  rw [h]
  exact List.forall_mem_cons.2 ⟨fun d h => (by have e : some (DL_im_IsGround_0) = some d := h; cases e; exact l_im_IsGround_0), List.forall_mem_cons.2 ⟨fun d h => (by have e : some (DL_im_IsGround_2) = some d := h; cases e; exact l_im_IsGround_2), List.forall_mem_cons.2 ⟨fun d h => (by have e : some (DL_im_IsGround_4) = some d := h; cases e; exact l_im_IsGround_4), fun _ h => absurd h List.not_mem_nil⟩⟩⟩
theorem ok_im_IsGround : FnOK prog E_im_IsGround tt 66 D_im_IsGround K_im_IsGround Z_im_IsGround O_im_IsGround f66 C_im_IsGround (fun x => T_im_IsGround x.1.1) (fun r => ((r, ()), ())) where
  at_ := func66
  name := by kernel_rfl
  body := by kernel_rfl
  res := by kernel_rfl
  ok := by kernel_rfl
  arity := fun _ => Nat.le_of_ble_eq_true (by kernel_rfl)
  pin := fun _ => by kernel_rfl
  chk := by kernel_rfl
  loops := o_im_IsGround
  run := e_im_IsGround
  F := fun _ => rfl
  emb := fun _ => rfl
theorem fd_im_IsGround : FDok prog (66, D_im_IsGround) := fn_ok mixed (env_ok (List.forall_mem_cons.2 ⟨fd_im_areBetween, fun _ h => absurd h List.not_mem_nil⟩)) tabOK ok_im_IsGround
theorem e_im_isNet : ∀ x : D_im_isNet.T, ((acode E_im_isNet tt Z_im_isNet (orcOf O_im_isNet) C_im_isNet (entry A_im_isNet I_im_isNet x)).map (keepRet tt K_im_isNet)).ev = ((T_im_isNet x.1.1).map fun r => some ((((r, ()), ())) : K_im_isNet.T)).ev := fun _ => by kernel_rfl
theorem o_im_isNet : LoopsOK E_im_isNet tt Z_im_isNet O_im_isNet C_im_isNet := by
  have h : loopsOf C_im_isNet = [] := by kernel_rfl
  unfold LoopsOK
  rw [h]
  exact fun _ h => absurd h List.not_mem_nil
theorem ok_im_isNet : FnOK prog E_im_isNet tt 86 D_im_isNet K_im_isNet Z_im_isNet O_im_isNet f86 C_im_isNet (fun x => T_im_isNet x.1.1) (fun r => ((r, ()), ())) where
  at_ := func86
  name := by kernel_rfl
  body := by kernel_rfl
  res := by kernel_rfl
  ok := by kernel_rfl
  arity := fun _ => Nat.le_of_ble_eq_true (by kernel_rfl)
  pin := fun _ => by kernel_rfl
  chk := by kernel_rfl
  loops := o_im_isNet
  run := e_im_isNet
  F := fun _ => rfl
  emb := fun _ => rfl
theorem fd_im_isNet : FDok prog (86, D_im_isNet) := fn_ok mixed (env_ok (List.forall_mem_cons.2 ⟨fd_im_IsGround, fun _ h => absurd h List.not_mem_nil⟩)) tabOK ok_im_isNet
theorem e_slices_IndexFunc_SSint_Sint : ∀ x : D_slices_IndexFunc_SSint_Sint.T, ((acode E_slices_IndexFunc_SSint_Sint tt Z_slices_IndexFunc_SSint_Sint (orcOf O_slices_IndexFunc_SSint_Sint) C_slices_IndexFunc_SSint_Sint (entry A_slices_IndexFunc_SSint_Sint I_slices_IndexFunc_SSint_Sint x)).map (keepRet tt K_slices_IndexFunc_SSint_Sint)).ev = ((T_slices_IndexFunc_SSint_Sint x.1.1 x.1.2.1).map fun r => some ((((r, ()), ())) : K_slices_IndexFunc_SSint_Sint.T)).ev := fun _ => by kernel_rfl
noncomputable def B_slices_IndexFunc_SSint_Sint_0 : Code := ((loopsOf C_slices_IndexFunc_SSint_Sint).find? fun p => Nat.beq p.1 0).elim .skip (·.2)
theorem l_slices_IndexFunc_SSint_Sint_0 : (DL_slices_IndexFunc_SSint_Sint_0).OK E_slices_IndexFunc_SSint_Sint tt Z_slices_IndexFunc_SSint_Sint (orcOf O_slices_IndexFunc_SSint_Sint) B_slices_IndexFunc_SSint_Sint_0 where
  ok := by kernel_rfl
  oke := by kernel_rfl
  okr := by kernel_rfl
  eta := fun _ => rfl
  step := fun _ _ => by kernel_rfl
theorem o_slices_IndexFunc_SSint_Sint : LoopsOK E_slices_IndexFunc_SSint_Sint tt Z_slices_IndexFunc_SSint_Sint O_slices_IndexFunc_SSint_Sint C_slices_IndexFunc_SSint_Sint := by
  have h : loopsOf C_slices_IndexFunc_SSint_Sint = [(0, B_slices_IndexFunc_SSint_Sint_0)] := by kernel_rfl
  unfold LoopsOK
  rw [h]
  exact List.forall_mem_cons.2 ⟨fun d h => (by have e : some (DL_slices_IndexFunc_SSint_Sint_0) = some d := h; cases e; exact l_slices_IndexFunc_SSint_Sint_0), fun _ h => absurd h List.not_mem_nil⟩
theorem ok_slices_IndexFunc_SSint_Sint : FnOK prog E_slices_IndexFunc_SSint_Sint tt 179 D_slices_IndexFunc_SSint_Sint K_slices_IndexFunc_SSint_Sint Z_slices_IndexFunc_SSint_Sint O_slices_IndexFunc_SSint_Sint f179 C_slices_IndexFunc_SSint_Sint (fun x => T_slices_IndexFunc_SSint_Sint x.1.1 x.1.2.1) (fun r => ((r, ()), ())) where
  at_ := func179
  name := by kernel_rfl
  body := by kernel_rfl
  res := by kernel_rfl
  ok := by kernel_rfl
  arity := fun _ => Nat.le_of_ble_eq_true (by kernel_rfl)
  pin := fun _ => by kernel_rfl
  chk := by kernel_rfl
  loops := o_slices_IndexFunc_SSint_Sint
  run := e_slices_IndexFunc_SSint_Sint
  F := fun _ => rfl
  emb := fun _ => rfl
theorem fd_slices_IndexFunc_SSint_Sint : FDok prog (179, D_slices_IndexFunc_SSint_Sint) := fn_ok mixed (env_ok (fun _ h => absurd h List.not_mem_nil)) tabOK ok_slices_IndexFunc_SSint_Sint
theorem e_slices_ContainsFunc_SSint_Sint : ∀ x : D_slices_ContainsFunc_SSint_Sint.T, ((acode E_slices_ContainsFunc_SSint_Sint tt Z_slices_ContainsFunc_SSint_Sint (orcOf O_slices_ContainsFunc_SSint_Sint) C_slices_ContainsFunc_SSint_Sint (entry A_slices_ContainsFunc_SSint_Sint I_slices_ContainsFunc_SSint_Sint x)).map (keepRet tt K_slices_ContainsFunc_SSint_Sint)).ev = ((T_slices_ContainsFunc_SSint_Sint x.1.1 x.1.2.1).map fun r => some ((((r, ()), ())) : K_slices_ContainsFunc_SSint_Sint.T)).ev := fun _ => by kernel_rfl
theorem o_slices_ContainsFunc_SSint_Sint : LoopsOK E_slices_ContainsFunc_SSint_Sint tt Z_slices_ContainsFunc_SSint_Sint O_slices_ContainsFunc_SSint_Sint C_slices_ContainsFunc_SSint_Sint := by
  have h : loopsOf C_slices_ContainsFunc_SSint_Sint = [] := by kernel_rfl
  unfold LoopsOK
  rw [h]
  exact fun _ h => absurd h List.not_mem_nil
theorem ok_slices_ContainsFunc_SSint_Sint : FnOK prog E_slices_ContainsFunc_SSint_Sint tt 144 D_slices_ContainsFunc_SSint_Sint K_slices_ContainsFunc_SSint_Sint Z_slices_ContainsFunc_SSint_Sint O_slices_ContainsFunc_SSint_Sint f144 C_slices_ContainsFunc_SSint_Sint (fun x => T_slices_ContainsFunc_SSint_Sint x.1.1 x.1.2.1) (fun r => ((r, ()), ())) where
  at_ := func144
  name := by kernel_rfl
  body := by kernel_rfl
  res := by kernel_rfl
  ok := by kernel_rfl
  arity := fun _ => Nat.le_of_ble_eq_true (by kernel_rfl)
  pin := fun _ => by kernel_rfl
  chk := by kernel_rfl
  loops := o_slices_ContainsFunc_SSint_Sint
  run := e_slices_ContainsFunc_SSint_Sint
  F := fun _ => rfl
  emb := fun _ => rfl
theorem fd_slices_ContainsFunc_SSint_Sint : FDok prog (144, D_slices_ContainsFunc_SSint_Sint) := fn_ok mixed (env_ok (List.forall_mem_cons.2 ⟨fd_slices_IndexFunc_SSint_Sint, fun _ h => absurd h List.not_mem_nil⟩)) tabOK ok_slices_ContainsFunc_SSint_Sint
theorem e_im_areFlows_1 : ∀ x : D_im_areFlows_1.T, ((acode E_im_areFlows_1 tt Z_im_areFlows_1 (orcOf O_im_areFlows_1) C_im_areFlows_1 (entry A_im_areFlows_1 I_im_areFlows_1 x)).map (keepRet tt K_im_areFlows_1)).ev = ((T_im_areFlows_1 x.1.1 x.1.2.1.1).map fun r => some ((((r, ()), ())) : K_im_areFlows_1.T)).ev := fun _ => by kernel_rfl
theorem o_im_areFlows_1 : LoopsOK E_im_areFlows_1 tt Z_im_areFlows_1 O_im_areFlows_1 C_im_areFlows_1 := by
  have h : loopsOf C_im_areFlows_1 = [] := by kernel_rfl
  unfold LoopsOK
  rw [h]
  exact fun _ h => absurd h List.not_mem_nil
theorem ok_im_areFlows_1 : FnOK prog E_im_areFlows_1 tt 145 D_im_areFlows_1 K_im_areFlows_1 Z_im_areFlows_1 O_im_areFlows_1 f145 C_im_areFlows_1 (fun x => T_im_areFlows_1 x.1.1 x.1.2.1.1) (fun r => ((r, ()), ())) where
  at_ := func145
  name := by kernel_rfl
  body := by kernel_rfl
  res := by kernel_rfl
  ok := by kernel_rfl
  arity := fun _ => Nat.le_of_ble_eq_true (by kernel_rfl)
  pin := fun _ => by kernel_rfl
  chk := by kernel_rfl
  loops := o_im_areFlows_1
  run := e_im_areFlows_1
  F := fun _ => rfl
  emb := fun _ => rfl
theorem fd_im_areFlows_1 : FDok prog (145, D_im_areFlows_1) := fn_ok mixed (env_ok (List.forall_mem_cons.2 ⟨fd_im_areBetween, fun _ h => absurd h List.not_mem_nil⟩)) tabOK ok_im_areFlows_1
theorem e_im_areFlows : ∀ x : D_im_areFlows.T, ((acode E_im_areFlows tt Z_im_areFlows (orcOf O_im_areFlows) C_im_areFlows (entry A_im_areFlows I_im_areFlows x)).map (keepRet tt K_im_areFlows)).ev = ((T_im_areFlows x.1.1 x.1.2.1).map fun r => some ((((r, ()), ())) : K_im_areFlows.T)).ev := fun _ => by kernel_rfl
theorem o_im_areFlows : LoopsOK E_im_areFlows tt Z_im_areFlows O_im_areFlows C_im_areFlows := by
  have h : loopsOf C_im_areFlows = [] := by kernel_rfl
  unfold LoopsOK
  rw [h]
  exact fun _ h => absurd h List.not_mem_nil
theorem ok_im_areFlows : FnOK prog E_im_areFlows tt 87 D_im_areFlows K_im_areFlows Z_im_areFlows O_im_areFlows f87 C_im_areFlows (fun x => T_im_areFlows x.1.1 x.1.2.1) (fun r => ((r, ()), ())) where
  at_ := func87
  name := by kernel_rfl
  body := by kernel_rfl
  res := by kernel_rfl
  ok := by kernel_rfl
  arity := fun _ => Nat.le_of_ble_eq_true (by kernel_rfl)
  pin := fun _ => by kernel_rfl
  chk := by kernel_rfl
  loops := o_im_areFlows
  run := e_im_areFlows
  F := fun _ => rfl
  emb := fun _ => rfl
theorem fd_im_areFlows : FDok prog (87, D_im_areFlows) := fn_ok mixed (env_ok (List.forall_mem_cons.2 ⟨fd_slices_ContainsFunc_SSint_Sint, List.forall_mem_cons.2 ⟨fd_slices_ContainsFunc_SSint_Sint, List.forall_mem_cons.2 ⟨fd_im_areFlows_1, fun _ h => absurd h List.not_mem_nil⟩⟩⟩)) tabOK ok_im_areFlows
theorem e_im_isAllocation_1 : ∀ x : D_im_isAllocation_1.T, ((acode E_im_isAllocation_1 tt Z_im_isAllocation_1 (orcOf O_im_isAllocation_1) C_im_isAllocation_1 (entry A_im_isAllocation_1 I_im_isAllocation_1 x)).map (keepRet tt K_im_isAllocation_1)).ev = ((T_im_isAllocation_1 x.1.1 x.1.2.1.1).map fun r => some ((((r, ()), ())) : K_im_isAllocation_1.T)).ev := fun _ => by kernel_rfl
theorem o_im_isAllocation_1 : LoopsOK E_im_isAllocation_1 tt Z_im_isAllocation_1 O_im_isAllocation_1 C_im_isAllocation_1 := by
  have h : loopsOf C_im_isAllocation_1 = [] := by kernel_rfl
  unfold LoopsOK
  rw [h]
  exact fun _ h => absurd h List.not_mem_nil
theorem ok_im_isAllocation_1 : FnOK prog E_im_isAllocation_1 tt 146 D_im_isAllocation_1 K_im_isAllocation_1 Z_im_isAllocation_1 O_im_isAllocation_1 f146 C_im_isAllocation_1 (fun x => T_im_isAllocation_1 x.1.1 x.1.2.1.1) (fun r => ((r, ()), ())) where
  at_ := func146
  name := by kernel_rfl
  body := by kernel_rfl
  res := by kernel_rfl
  ok := by kernel_rfl
  arity := fun _ => Nat.le_of_ble_eq_true (by kernel_rfl)
  pin := fun _ => by kernel_rfl
  chk := by kernel_rfl
  loops := o_im_isAllocation_1
  run := e_im_isAllocation_1
  F := fun _ => rfl
  emb := fun _ => rfl
theorem fd_im_isAllocation_1 : FDok prog (146, D_im_isAllocation_1) := fn_ok mixed (env_ok (fun _ h => absurd h List.not_mem_nil)) tabOK ok_im_isAllocation_1
theorem e_im_isAllocation : ∀ x : D_im_isAllocation.T, ((acode E_im_isAllocation tt Z_im_isAllocation (orcOf O_im_isAllocation) C_im_isAllocation (entry A_im_isAllocation I_im_isAllocation x)).map (keepRet tt K_im_isAllocation)).ev = ((T_im_isAllocation x.1.1 x.1.2.1).map fun r => some ((((r, ()), ())) : K_im_isAllocation.T)).ev := fun _ => by kernel_rfl
theorem o_im_isAllocation : LoopsOK E_im_isAllocation tt Z_im_isAllocation O_im_isAllocation C_im_isAllocation := by
  have h : loopsOf C_im_isAllocation = [] := by kernel_rfl
  unfold LoopsOK
  rw [h]
  exact fun _ h => absurd h List.not_mem_nil
theorem ok_im_isAllocation : FnOK prog E_im_isAllocation tt 89 D_im_isAllocation K_im_isAllocation Z_im_isAllocation O_im_isAllocation f89 C_im_isAllocation (fun x => T_im_isAllocation x.1.1 x.1.2.1) (fun r => ((r, ()), ())) where
  at_ := func89
  name := by kernel_rfl
  body := by kernel_rfl
  res := by kernel_rfl
  ok := by kernel_rfl
  arity := fun _ => Nat.le_of_ble_eq_true (by kernel_rfl)
  pin := fun _ => by kernel_rfl
  chk := by kernel_rfl
  loops := o_im_isAllocation
  run := e_im_isAllocation
  F := fun _ => rfl
  emb := fun _ => rfl
theorem fd_im_isAllocation : FDok prog (89, D_im_isAllocation) := fn_ok mixed (env_ok (List.forall_mem_cons.2 ⟨fd_im_areBetween, List.forall_mem_cons.2 ⟨fd_slices_ContainsFunc_Sint_int, List.forall_mem_cons.2 ⟨fd_slices_ContainsFunc_Sint_int, List.forall_mem_cons.2 ⟨fd_im_isAllocation_1, fun _ h => absurd h List.not_mem_nil⟩⟩⟩⟩)) tabOK ok_im_isAllocation
theorem e_im_hubCost : ∀ x : D_im_hubCost.T, ((acode E_im_hubCost tt Z_im_hubCost (orcOf O_im_hubCost) C_im_hubCost (entry A_im_hubCost I_im_hubCost x)).map (keepRet tt K_im_hubCost)).ev = ((T_im_hubCost x.1.1 x.1.2.1 x.1.2.2.1 x.1.2.2.2.1).map fun r => some ((((r, ()), ())) : K_im_hubCost.T)).ev := fun _ => by kernel_rfl
noncomputable def B_im_hubCost_2 : Code := ((loopsOf C_im_hubCost).find? fun p => Nat.beq p.1 2).elim .skip (·.2)
theorem l_im_hubCost_2 : (DL_im_hubCost_2).OK E_im_hubCost tt Z_im_hubCost (orcOf O_im_hubCost) B_im_hubCost_2 where
  ok := by kernel_rfl
  oke := by kernel_rfl
  okr := by kernel_rfl
  eta := fun _ => rfl
  step := fun _ _ => by kernel_rfl
noncomputable def B_im_hubCost_0 : Code := ((loopsOf C_im_hubCost).find? fun p => Nat.beq p.1 0).elim .skip (·.2)
theorem l_im_hubCost_0 : (DL_im_hubCost_0).OK E_im_hubCost tt Z_im_hubCost (orcOf O_im_hubCost) B_im_hubCost_0 where
  ok := by kernel_rfl
  oke := by kernel_rfl
  okr := by kernel_rfl
  eta := fun _ => rfl
  step := fun _ _ => by kernel_rfl
theorem o_im_hubCost : LoopsOK E_im_hubCost tt Z_im_hubCost O_im_hubCost C_im_hubCost := by
  have h : loopsOf C_im_hubCost = [(0, B_im_hubCost_0), (2, B_im_hubCost_2)] := by kernel_rfl
  unfold LoopsOK
  rw [h]
  exact List.forall_mem_cons.2 ⟨fun d h => (by have e : some (DL_im_hubCost_0) = some d := h; cases e; exact l_im_hubCost_0), List.forall_mem_cons.2 ⟨fun d h => (by have e : some (DL_im_hubCost_2) = some d := h; cases e; exact l_im_hubCost_2), fun _ h => absurd h List.not_mem_nil⟩⟩
theorem ok_im_hubCost : FnOK prog E_im_hubCost tt 94 D_im_hubCost K_im_hubCost Z_im_hubCost O_im_hubCost f94 C_im_hubCost (fun x => T_im_hubCost x.1.1 x.1.2.1 x.1.2.2.1 x.1.2.2.2.1) (fun r => ((r, ()), ())) where
  at_ := func94
  name := by kernel_rfl
  body := by kernel_rfl
  res := by kernel_rfl
  ok := by kernel_rfl
  arity := fun _ => Nat.le_of_ble_eq_true (by kernel_rfl)
  pin := fun _ => by kernel_rfl
  chk := by kernel_rfl
  loops := o_im_hubCost
  run := e_im_hubCost
  F := fun _ => rfl
  emb := fun _ => rfl
theorem fd_im_hubCost : FDok prog (94, D_im_hubCost) := fn_ok mixed (env_ok (fun _ h => absurd h List.not_mem_nil)) tabOK ok_im_hubCost
theorem e_im_HubCost : ∀ x : D_im_HubCost.T, ((acode E_im_HubCost tt Z_im_HubCost (orcOf O_im_HubCost) C_im_HubCost (entry A_im_HubCost I_im_HubCost x)).map (keepRet tt K_im_HubCost)).ev = ((T_im_HubCost x.1.1 x.1.2.1 x.1.2.2.1 x.1.2.2.2.1).map fun r => some ((((r.1, (r.2, ())), ())) : K_im_HubCost.T)).ev := fun _ => by kernel_rfl
theorem o_im_HubCost : LoopsOK E_im_HubCost tt Z_im_HubCost O_im_HubCost C_im_HubCost := by
  have h : loopsOf C_im_HubCost = [] := by kernel_rfl
  unfold LoopsOK
  rw [h]
  exact fun _ h => absurd h List.not_mem_nil
theorem ok_im_HubCost : FnOK prog E_im_HubCost tt 53 D_im_HubCost K_im_HubCost Z_im_HubCost O_im_HubCost f53 C_im_HubCost (fun x => T_im_HubCost x.1.1 x.1.2.1 x.1.2.2.1 x.1.2.2.2.1) (fun r => ((r.1, (r.2, ())), ())) where
  at_ := func53
  name := by kernel_rfl
  body := by kernel_rfl
  res := by kernel_rfl
  ok := by kernel_rfl
  arity := fun _ => Nat.le_of_ble_eq_true (by kernel_rfl)
  pin := fun _ => by kernel_rfl
  chk := by kernel_rfl
  loops := o_im_HubCost
  run := e_im_HubCost
  F := fun _ => rfl
  emb := fun _ => rfl
theorem fd_im_HubCost : FDok prog (53, D_im_HubCost) := fn_ok mixed (env_ok (List.forall_mem_cons.2 ⟨fd_im_isNet, List.forall_mem_cons.2 ⟨fd_im_areFlows, List.forall_mem_cons.2 ⟨fd_im_isAllocation, List.forall_mem_cons.2 ⟨fd_im_between, List.forall_mem_cons.2 ⟨fd_im_hubCost, fun _ h => absurd h List.not_mem_nil⟩⟩⟩⟩⟩)) tabOK ok_im_HubCost
theorem e_sp_l1In : ∀ x : D_sp_l1In.T, ((acode E_sp_l1In tt Z_sp_l1In (orcOf O_sp_l1In) C_sp_l1In (entry A_sp_l1In I_sp_l1In x)).map (keepRet tt K_sp_l1In)).ev = ((T_sp_l1In x.1.1 x.1.2.1 x.1.2.2.1).map fun r => some ((((r, ()), ())) : K_sp_l1In.T)).ev := fun _ => by kernel_rfl
theorem o_sp_l1In : LoopsOK E_sp_l1In tt Z_sp_l1In O_sp_l1In C_sp_l1In := by
  have h : loopsOf C_sp_l1In = [] := by kernel_rfl
  unfold LoopsOK
  rw [h]
  exact fun _ h => absurd h List.not_mem_nil
theorem ok_sp_l1In : FnOK prog E_sp_l1In tt 84 D_sp_l1In K_sp_l1In Z_sp_l1In O_sp_l1In f84 C_sp_l1In (fun x => T_sp_l1In x.1.1 x.1.2.1 x.1.2.2.1) (fun r => ((r, ()), ())) where
  at_ := func84
  name := by kernel_rfl
  body := by kernel_rfl
  res := by kernel_rfl
  ok := by kernel_rfl
  arity := fun _ => Nat.le_of_ble_eq_true (by kernel_rfl)
  pin := fun _ => by kernel_rfl
  chk := by kernel_rfl
  loops := o_sp_l1In
  run := e_sp_l1In
  F := fun _ => rfl
  emb := fun _ => rfl
theorem fd_sp_l1In : FDok prog (84, D_sp_l1In) := fn_ok mixed (env_ok (fun _ h => absurd h List.not_mem_nil)) tabOK ok_sp_l1In
theorem e_sp_l2Row : ∀ x : D_sp_l2Row.T, ((acode E_sp_l2Row tt Z_sp_l2Row (orcOf O_sp_l2Row) C_sp_l2Row (entry A_sp_l2Row I_sp_l2Row x)).map (keepRet tt K_sp_l2Row)).ev = ((T_sp_l2Row x.1.1 x.1.2.1 x.1.2.2.1).map fun r => some ((((r, ()), ())) : K_sp_l2Row.T)).ev := fun _ => by kernel_rfl
noncomputable def B_sp_l2Row_0 : Code := ((loopsOf C_sp_l2Row).find? fun p => Nat.beq p.1 0).elim .skip (·.2)
theorem l_sp_l2Row_0 : (DL_sp_l2Row_0).OK E_sp_l2Row tt Z_sp_l2Row (orcOf O_sp_l2Row) B_sp_l2Row_0 where
  ok := by kernel_rfl
  oke := by kernel_rfl
  okr := by kernel_rfl
  eta := fun _ => rfl
  step := fun _ _ => by kernel_rfl
theorem o_sp_l2Row : LoopsOK E_sp_l2Row tt Z_sp_l2Row O_sp_l2Row C_sp_l2Row := by
  have h : loopsOf C_sp_l2Row = [(0, B_sp_l2Row_0)] := by kernel_rfl
  unfold LoopsOK
  rw [h]
  exact List.forall_mem_cons.2 ⟨fun d h => (by have e : some (DL_sp_l2Row_0) = some d := h; cases e; exact l_sp_l2Row_0), fun _ h => absurd h List.not_mem_nil⟩
theorem ok_sp_l2Row : FnOK prog E_sp_l2Row tt 77 D_sp_l2Row K_sp_l2Row Z_sp_l2Row O_sp_l2Row f77 C_sp_l2Row (fun x => T_sp_l2Row x.1.1 x.1.2.1 x.1.2.2.1) (fun r => ((r, ()), ())) where
  at_ := func77
  name := by kernel_rfl
  body := by kernel_rfl
  res := by kernel_rfl
  ok := by kernel_rfl
  arity := fun _ => Nat.le_of_ble_eq_true (by kernel_rfl)
  pin := fun _ => by kernel_rfl
  chk := by kernel_rfl
  loops := o_sp_l2Row
  run := e_sp_l2Row
  F := fun _ => rfl
  emb := fun _ => rfl
theorem fd_sp_l2Row : FDok prog (77, D_sp_l2Row) := fn_ok mixed (env_ok (List.forall_mem_cons.2 ⟨fd_sp_l1In, fun _ h => absurd h List.not_mem_nil⟩)) tabOK ok_sp_l2Row
theorem e_sp_l11Ground : ∀ x : D_sp_l11Ground.T, ((acode E_sp_l11Ground tt Z_sp_l11Ground (orcOf O_sp_l11Ground) C_sp_l11Ground (entry A_sp_l11Ground I_sp_l11Ground x)).map (keepRet tt K_sp_l11Ground)).ev = ((T_sp_l11Ground x.1.1).map fun r => some ((((r, ()), ())) : K_sp_l11Ground.T)).ev := fun _ => by kernel_rfl
noncomputable def B_sp_l11Ground_2 : Code := ((loopsOf C_sp_l11Ground).find? fun p => Nat.beq p.1 2).elim .skip (·.2)
theorem l_sp_l11Ground_2 : (DL_sp_l11Ground_2).OK E_sp_l11Ground tt Z_sp_l11Ground (orcOf O_sp_l11Ground) B_sp_l11Ground_2 where
  ok := by kernel_rfl
  oke := by kernel_rfl
  okr := by kernel_rfl
  eta := fun _ => rfl
  step := fun _ _ => by kernel_rfl
noncomputable def B_sp_l11Ground_0 : Code := ((loopsOf C_sp_l11Ground).find? fun p => Nat.beq p.1 0).elim .skip (·.2)
theorem l_sp_l11Ground_0 : (DL_sp_l11Ground_0).OK E_sp_l11Ground tt Z_sp_l11Ground (orcOf O_sp_l11Ground) B_sp_l11Ground_0 where
  ok := by kernel_rfl
  oke := by kernel_rfl
  okr := by kernel_rfl
  eta := fun _ => rfl
  step := fun _ _ => by kernel_rfl
theorem o_sp_l11Ground : LoopsOK E_sp_l11Ground tt Z_sp_l11Ground O_sp_l11Ground C_sp_l11Ground := by
  have h : loopsOf C_sp_l11Ground = [(0, B_sp_l11Ground_0), (2, B_sp_l11Ground_2)] := by kernel_rfl
  unfold LoopsOK
  rw [h]
  exact List.forall_mem_cons.2 ⟨fun d h => (by have e : some (DL_sp_l11Ground_0) = some d := h; cases e; exact l_sp_l11Ground_0), List.forall_mem_cons.2 ⟨fun d h => (by have e : some (DL_sp_l11Ground_2) = some d := h; cases e; exact l_sp_l11Ground_2), fun _ h => absurd h List.not_mem_nil⟩⟩
theorem ok_sp_l11Ground : FnOK prog E_sp_l11Ground tt 95 D_sp_l11Ground K_sp_l11Ground Z_sp_l11Ground O_sp_l11Ground f95 C_sp_l11Ground (fun x => T_sp_l11Ground x.1.1) (fun r => ((r, ()), ())) where
  at_ := func95
  name := by kernel_rfl
  body := by kernel_rfl
  res := by kernel_rfl
  ok := by kernel_rfl
  arity := fun _ => Nat.le_of_ble_eq_true (by kernel_rfl)
  pin := fun _ => by kernel_rfl
  chk := by kernel_rfl
  loops := o_sp_l11Ground
  run := e_sp_l11Ground
  F := fun _ => rfl
  emb := fun _ => rfl
theorem fd_sp_l11Ground : FDok prog (95, D_sp_l11Ground) := fn_ok mixed (env_ok (List.forall_mem_cons.2 ⟨fd_sp_l2Row, fun _ h => absurd h List.not_mem_nil⟩)) tabOK ok_sp_l11Ground
theorem e_sp_l11Small : ∀ x : D_sp_l11Small.T, ((acode E_sp_l11Small tt Z_sp_l11Small (orcOf O_sp_l11Small) C_sp_l11Small (entry A_sp_l11Small I_sp_l11Small x)).map (keepRet tt K_sp_l11Small)).ev = ((T_sp_l11Small x.1.1).map fun r => some ((((r, ()), ())) : K_sp_l11Small.T)).ev := fun _ => by kernel_rfl
theorem o_sp_l11Small : LoopsOK E_sp_l11Small tt Z_sp_l11Small O_sp_l11Small C_sp_l11Small := by
  have h : loopsOf C_sp_l11Small = [] := by kernel_rfl
  unfold LoopsOK
  rw [h]
  exact fun _ h => absurd h List.not_mem_nil
theorem ok_sp_l11Small : FnOK prog E_sp_l11Small tt 127 D_sp_l11Small K_sp_l11Small Z_sp_l11Small O_sp_l11Small f127 C_sp_l11Small (fun x => T_sp_l11Small x.1.1) (fun r => ((r, ()), ())) where
  at_ := func127
  name := by kernel_rfl
  body := by kernel_rfl
  res := by kernel_rfl
  ok := by kernel_rfl
  arity := fun _ => Nat.le_of_ble_eq_true (by kernel_rfl)
  pin := fun _ => by kernel_rfl
  chk := by kernel_rfl
  loops := o_sp_l11Small
  run := e_sp_l11Small
  F := fun _ => rfl
  emb := fun _ => rfl
theorem fd_sp_l11Small : FDok prog (127, D_sp_l11Small) := fn_ok mixed (env_ok (List.forall_mem_cons.2 ⟨fd_sp_l11Ground, fun _ h => absurd h List.not_mem_nil⟩)) tabOK ok_sp_l11Small
theorem e_sp_l11Flows : ∀ x : D_sp_l11Flows.T, ((acode E_sp_l11Flows tt Z_sp_l11Flows (orcOf O_sp_l11Flows) C_sp_l11Flows (entry A_sp_l11Flows I_sp_l11Flows x)).map (keepRet tt K_sp_l11Flows)).ev = ((T_sp_l11Flows x.1.1 x.1.2.1 x.1.2.2.1).map fun r => some ((((r, ()), ())) : K_sp_l11Flows.T)).ev := fun _ => by kernel_rfl
noncomputable def B_sp_l11Flows_0 : Code := ((loopsOf C_sp_l11Flows).find? fun p => Nat.beq p.1 0).elim .skip (·.2)
theorem l_sp_l11Flows_0 : (DL_sp_l11Flows_0).OK E_sp_l11Flows tt Z_sp_l11Flows (orcOf O_sp_l11Flows) B_sp_l11Flows_0 where
  ok := by kernel_rfl
  oke := by kernel_rfl
  okr := by kernel_rfl
  eta := fun _ => rfl
  step := fun _ _ => by kernel_rfl
theorem o_sp_l11Flows : LoopsOK E_sp_l11Flows tt Z_sp_l11Flows O_sp_l11Flows C_sp_l11Flows := by
  have h : loopsOf C_sp_l11Flows = [(0, B_sp_l11Flows_0)] := by kernel_rfl
  unfold LoopsOK
  rw [h]
  exact List.forall_mem_cons.2 ⟨fun d h => (by have e : some (DL_sp_l11Flows_0) = some d := h; cases e; exact l_sp_l11Flows_0), fun _ h => absurd h List.not_mem_nil⟩
theorem ok_sp_l11Flows : FnOK prog E_sp_l11Flows tt 83 D_sp_l11Flows K_sp_l11Flows Z_sp_l11Flows O_sp_l11Flows f83 C_sp_l11Flows (fun x => T_sp_l11Flows x.1.1 x.1.2.1 x.1.2.2.1) (fun r => ((r, ()), ())) where
  at_ := func83
  name := by kernel_rfl
  body := by kernel_rfl
  res := by kernel_rfl
  ok := by kernel_rfl
  arity := fun _ => Nat.le_of_ble_eq_true (by kernel_rfl)
  pin := fun _ => by kernel_rfl
  chk := by kernel_rfl
  loops := o_sp_l11Flows
  run := e_sp_l11Flows
  F := fun _ => rfl
  emb := fun _ => rfl
theorem fd_sp_l11Flows : FDok prog (83, D_sp_l11Flows) := fn_ok mixed (env_ok (List.forall_mem_cons.2 ⟨fd_sp_l2Row, List.forall_mem_cons.2 ⟨fd_sp_l11Small, List.forall_mem_cons.2 ⟨fd_sp_l1In, fun _ h => absurd h List.not_mem_nil⟩⟩⟩)) tabOK ok_sp_l11Flows
theorem e_sp_l11Hubs : ∀ x : D_sp_l11Hubs.T, ((acode E_sp_l11Hubs tt Z_sp_l11Hubs (orcOf O_sp_l11Hubs) C_sp_l11Hubs (entry A_sp_l11Hubs I_sp_l11Hubs x)).map (keepRet tt K_sp_l11Hubs)).ev = ((T_sp_l11Hubs x.1.1 x.1.2.1).map fun r => some ((((r, ()), ())) : K_sp_l11Hubs.T)).ev := fun _ => by kernel_rfl
noncomputable def B_sp_l11Hubs_0 : Code := ((loopsOf C_sp_l11Hubs).find? fun p => Nat.beq p.1 0).elim .skip (·.2)
theorem l_sp_l11Hubs_0 : (DL_sp_l11Hubs_0).OK E_sp_l11Hubs tt Z_sp_l11Hubs (orcOf O_sp_l11Hubs) B_sp_l11Hubs_0 where
  ok := by kernel_rfl
  oke := by kernel_rfl
  okr := by kernel_rfl
  eta := fun _ => rfl
  step := fun _ _ => by kernel_rfl
noncomputable def B_sp_l11Hubs_2 : Code := ((loopsOf C_sp_l11Hubs).find? fun p => Nat.beq p.1 2).elim .skip (·.2)
theorem l_sp_l11Hubs_2 : (DL_sp_l11Hubs_2).OK E_sp_l11Hubs tt Z_sp_l11Hubs (orcOf O_sp_l11Hubs) B_sp_l11Hubs_2 where
  ok := by kernel_rfl
  oke := by kernel_rfl
  okr := by kernel_rfl
  eta := fun _ => rfl
  step := fun _ _ => by kernel_rfl
theorem o_sp_l11Hubs : LoopsOK E_sp_l11Hubs tt Z_sp_l11Hubs O_sp_l11Hubs C_sp_l11Hubs := by
  have h : loopsOf C_sp_l11Hubs = [(0, B_sp_l11Hubs_0), (2, B_sp_l11Hubs_2)] := by kernel_rfl
  unfold LoopsOK
  rw [h]
  exact List.forall_mem_cons.2 ⟨fun d h => (by have e : some (DL_sp_l11Hubs_0) = some d := h; cases e; exact l_sp_l11Hubs_0), List.forall_mem_cons.2 ⟨fun d h => (by have e : some (DL_sp_l11Hubs_2) = some d := h; cases e; exact l_sp_l11Hubs_2), fun _ h => absurd h List.not_mem_nil⟩⟩
theorem ok_sp_l11Hubs : FnOK prog E_sp_l11Hubs tt 125 D_sp_l11Hubs K_sp_l11Hubs Z_sp_l11Hubs O_sp_l11Hubs f125 C_sp_l11Hubs (fun x => T_sp_l11Hubs x.1.1 x.1.2.1) (fun r => ((r, ()), ())) where
  at_ := func125
  name := by kernel_rfl
  body := by kernel_rfl
  res := by kernel_rfl
  ok := by kernel_rfl
  arity := fun _ => Nat.le_of_ble_eq_true (by kernel_rfl)
  pin := fun _ => by kernel_rfl
  chk := by kernel_rfl
  loops := o_sp_l11Hubs
  run := e_sp_l11Hubs
  F := fun _ => rfl
  emb := fun _ => rfl
theorem fd_sp_l11Hubs : FDok prog (125, D_sp_l11Hubs) := fn_ok mixed (env_ok (List.forall_mem_cons.2 ⟨fd_sp_l1In, fun _ h => absurd h List.not_mem_nil⟩)) tabOK ok_sp_l11Hubs
theorem e_sp_l11Cost : ∀ x : D_sp_l11Cost.T, ((acode E_sp_l11Cost tt Z_sp_l11Cost (orcOf O_sp_l11Cost) C_sp_l11Cost (entry A_sp_l11Cost I_sp_l11Cost x)).map (keepRet tt K_sp_l11Cost)).ev = ((T_sp_l11Cost x.1.1 x.1.2.1 x.1.2.2.1 x.1.2.2.2.1).map fun r => some ((((r, ()), ())) : K_sp_l11Cost.T)).ev := fun _ => by kernel_rfl
noncomputable def B_sp_l11Cost_2 : Code := ((loopsOf C_sp_l11Cost).find? fun p => Nat.beq p.1 2).elim .skip (·.2)
theorem l_sp_l11Cost_2 : (DL_sp_l11Cost_2).OK E_sp_l11Cost tt Z_sp_l11Cost (orcOf O_sp_l11Cost) B_sp_l11Cost_2 where
  ok := by kernel_rfl
  oke := by kernel_rfl
  okr := by kernel_rfl
  eta := fun _ => rfl
  step := fun _ _ => by kernel_rfl
noncomputable def B_sp_l11Cost_0 : Code := ((loopsOf C_sp_l11Cost).find? fun p => Nat.beq p.1 0).elim .skip (·.2)
theorem l_sp_l11Cost_0 : (DL_sp_l11Cost_0).OK E_sp_l11Cost tt Z_sp_l11Cost (orcOf O_sp_l11Cost) B_sp_l11Cost_0 where
  ok := by kernel_rfl
  oke := by kernel_rfl
  okr := by kernel_rfl
  eta := fun _ => rfl
  step := fun _ _ => by kernel_rfl
theorem o_sp_l11Cost : LoopsOK E_sp_l11Cost tt Z_sp_l11Cost O_sp_l11Cost C_sp_l11Cost := by
  have h : loopsOf C_sp_l11Cost = [(0, B_sp_l11Cost_0), (2, B_sp_l11Cost_2)] := by kernel_rfl
  unfold LoopsOK
  rw [h]
  exact List.forall_mem_cons.2 ⟨fun d h => (by have e : some (DL_sp_l11Cost_0) = some d := h; cases e; exact l_sp_l11Cost_0), List.forall_mem_cons.2 ⟨fun d h => (by have e : some (DL_sp_l11Cost_2) = some d := h; cases e; exact l_sp_l11Cost_2), fun _ h => absurd h List.not_mem_nil⟩⟩
theorem ok_sp_l11Cost : FnOK prog E_sp_l11Cost tt 126 D_sp_l11Cost K_sp_l11Cost Z_sp_l11Cost O_sp_l11Cost f126 C_sp_l11Cost (fun x => T_sp_l11Cost x.1.1 x.1.2.1 x.1.2.2.1 x.1.2.2.2.1) (fun r => ((r, ()), ())) where
  at_ := func126
  name := by kernel_rfl
  body := by kernel_rfl
  res := by kernel_rfl
  ok := by kernel_rfl
  arity := fun _ => Nat.le_of_ble_eq_true (by kernel_rfl)
  pin := fun _ => by kernel_rfl
  chk := by kernel_rfl
  loops := o_sp_l11Cost
  run := e_sp_l11Cost
  F := fun _ => rfl
  emb := fun _ => rfl
theorem fd_sp_l11Cost : FDok prog (126, D_sp_l11Cost) := fn_ok mixed (env_ok (fun _ h => absurd h List.not_mem_nil)) tabOK ok_sp_l11Cost
theorem e_sp_HubCost : ∀ x : D_sp_HubCost.T, ((acode E_sp_HubCost tt Z_sp_HubCost (orcOf O_sp_HubCost) C_sp_HubCost (entry A_sp_HubCost I_sp_HubCost x)).map (keepRet tt K_sp_HubCost)).ev = ((T_sp_HubCost x.1.1 x.1.2.1 x.1.2.2.1 x.1.2.2.2.1).map fun r => some ((((r.1, (r.2, ())), ())) : K_sp_HubCost.T)).ev := fun _ => by kernel_rfl
theorem o_sp_HubCost : LoopsOK E_sp_HubCost tt Z_sp_HubCost O_sp_HubCost C_sp_HubCost := by
  have h : loopsOf C_sp_HubCost = [] := by kernel_rfl
  unfold LoopsOK
  rw [h]
  exact fun _ h => absurd h List.not_mem_nil
theorem ok_sp_HubCost : FnOK prog E_sp_HubCost tt 54 D_sp_HubCost K_sp_HubCost Z_sp_HubCost O_sp_HubCost f54 C_sp_HubCost (fun x => T_sp_HubCost x.1.1 x.1.2.1 x.1.2.2.1 x.1.2.2.2.1) (fun r => ((r.1, (r.2, ())), ())) where
  at_ := func54
  name := by kernel_rfl
  body := by kernel_rfl
  res := by kernel_rfl
  ok := by kernel_rfl
  arity := fun _ => Nat.le_of_ble_eq_true (by kernel_rfl)
  pin := fun _ => by kernel_rfl
  chk := by kernel_rfl
  loops := o_sp_HubCost
  run := e_sp_HubCost
  F := fun _ => rfl
  emb := fun _ => rfl
theorem fd_sp_HubCost : FDok prog (54, D_sp_HubCost) := fn_ok mixed (env_ok (List.forall_mem_cons.2 ⟨fd_sp_l11Flows, List.forall_mem_cons.2 ⟨fd_sp_l11Hubs, List.forall_mem_cons.2 ⟨fd_sp_l11Cost, fun _ h => absurd h List.not_mem_nil⟩⟩⟩)) tabOK ok_sp_HubCost
theorem e_im_IsAllocation : ∀ x : D_im_IsAllocation.T, ((acode E_im_IsAllocation tt Z_im_IsAllocation (orcOf O_im_IsAllocation) C_im_IsAllocation (entry A_im_IsAllocation I_im_IsAllocation x)).map (keepRet tt K_im_IsAllocation)).ev = ((T_im_IsAllocation x.1.1 x.1.2.1).map fun r => some ((((r.1, (r.2, ())), ())) : K_im_IsAllocation.T)).ev := fun _ => by kernel_rfl
theorem o_im_IsAllocation : LoopsOK E_im_IsAllocation tt Z_im_IsAllocation O_im_IsAllocation C_im_IsAllocation := by
  have h : loopsOf C_im_IsAllocation = [] := by kernel_rfl
  unfold LoopsOK
  rw [h]
  exact fun _ h => absurd h List.not_mem_nil
theorem ok_im_IsAllocation : FnOK prog E_im_IsAllocation tt 55 D_im_IsAllocation K_im_IsAllocation Z_im_IsAllocation O_im_IsAllocation f55 C_im_IsAllocation (fun x => T_im_IsAllocation x.1.1 x.1.2.1) (fun r => ((r.1, (r.2, ())), ())) where
  at_ := func55
  name := by kernel_rfl
  body := by kernel_rfl
  res := by kernel_rfl
  ok := by kernel_rfl
  arity := fun _ => Nat.le_of_ble_eq_true (by kernel_rfl)
  pin := fun _ => by kernel_rfl
  chk := by kernel_rfl
  loops := o_im_IsAllocation
  run := e_im_IsAllocation
  F := fun _ => rfl
  emb := fun _ => rfl
theorem fd_im_IsAllocation : FDok prog (55, D_im_IsAllocation) := fn_ok mixed (env_ok (List.forall_mem_cons.2 ⟨fd_im_isNet, List.forall_mem_cons.2 ⟨fd_im_isAllocation, fun _ h => absurd h List.not_mem_nil⟩⟩)) tabOK ok_im_IsAllocation
theorem e_sp_IsAllocation : ∀ x : D_sp_IsAllocation.T, ((acode E_sp_IsAllocation tt Z_sp_IsAllocation (orcOf O_sp_IsAllocation) C_sp_IsAllocation (entry A_sp_IsAllocation I_sp_IsAllocation x)).map (keepRet tt K_sp_IsAllocation)).ev = ((T_sp_IsAllocation x.1.1 x.1.2.1).map fun r => some ((((r.1, (r.2, ())), ())) : K_sp_IsAllocation.T)).ev := fun _ => by kernel_rfl
theorem o_sp_IsAllocation : LoopsOK E_sp_IsAllocation tt Z_sp_IsAllocation O_sp_IsAllocation C_sp_IsAllocation := by
  have h : loopsOf C_sp_IsAllocation = [] := by kernel_rfl
  unfold LoopsOK
  rw [h]
  exact fun _ h => absurd h List.not_mem_nil
theorem ok_sp_IsAllocation : FnOK prog E_sp_IsAllocation tt 56 D_sp_IsAllocation K_sp_IsAllocation Z_sp_IsAllocation O_sp_IsAllocation f56 C_sp_IsAllocation (fun x => T_sp_IsAllocation x.1.1 x.1.2.1) (fun r => ((r.1, (r.2, ())), ())) where
  at_ := func56
  name := by kernel_rfl
  body := by kernel_rfl
  res := by kernel_rfl
  ok := by kernel_rfl
  arity := fun _ => Nat.le_of_ble_eq_true (by kernel_rfl)
  pin := fun _ => by kernel_rfl
  chk := by kernel_rfl
  loops := o_sp_IsAllocation
  run := e_sp_IsAllocation
  F := fun _ => rfl
  emb := fun _ => rfl
theorem fd_sp_IsAllocation : FDok prog (56, D_sp_IsAllocation) := fn_ok mixed (env_ok (List.forall_mem_cons.2 ⟨fd_sp_l11Small, List.forall_mem_cons.2 ⟨fd_sp_l11Hubs, fun _ h => absurd h List.not_mem_nil⟩⟩)) tabOK ok_sp_IsAllocation
theorem e_sp_DrawIsAllocation : ∀ x : D_sp_DrawIsAllocation.T, ((acode E_sp_DrawIsAllocation tt Z_sp_DrawIsAllocation (orcOf O_sp_DrawIsAllocation) C_sp_DrawIsAllocation (entry A_sp_DrawIsAllocation I_sp_DrawIsAllocation x)).map (keepRet tt K_sp_DrawIsAllocation)).ev = ((T_sp_DrawIsAllocation x.1.1).map fun r => some ((((r.1, ((), ())), (r.2, ()))) : K_sp_DrawIsAllocation.T)).ev := fun _ => by kernel_rfl
theorem o_sp_DrawIsAllocation : LoopsOK E_sp_DrawIsAllocation tt Z_sp_DrawIsAllocation O_sp_DrawIsAllocation C_sp_DrawIsAllocation := by
  have h : loopsOf C_sp_DrawIsAllocation = [] := by kernel_rfl
  unfold LoopsOK
  rw [h]
  exact fun _ h => absurd h List.not_mem_nil
theorem ok_sp_DrawIsAllocation : FnOK prog E_sp_DrawIsAllocation tt 57 D_sp_DrawIsAllocation K_sp_DrawIsAllocation Z_sp_DrawIsAllocation O_sp_DrawIsAllocation f57 C_sp_DrawIsAllocation (fun x => T_sp_DrawIsAllocation x.1.1) (fun r => ((r.1, ((), ())), (r.2, ()))) where
  at_ := func57
  name := by kernel_rfl
  body := by kernel_rfl
  res := by kernel_rfl
  ok := by kernel_rfl
  arity := fun _ => Nat.le_of_ble_eq_true (by kernel_rfl)
  pin := fun _ => by kernel_rfl
  chk := by kernel_rfl
  loops := o_sp_DrawIsAllocation
  run := e_sp_DrawIsAllocation
  F := fun _ => rfl
  emb := fun _ => rfl
theorem fd_sp_DrawIsAllocation : FDok prog (57, D_sp_DrawIsAllocation) := fn_ok mixed (env_ok (List.forall_mem_cons.2 ⟨fd_sp_l1Cur_among, List.forall_mem_cons.2 ⟨fd_sp_l1Cur_ground, List.forall_mem_cons.2 ⟨fd_sp_l1Cur_hubs, fun _ h => absurd h List.not_mem_nil⟩⟩⟩)) tabOK ok_sp_DrawIsAllocation
theorem e_sp_DrawBestHubs : ∀ x : D_sp_DrawBestHubs.T, ((acode E_sp_DrawBestHubs tt Z_sp_DrawBestHubs (orcOf O_sp_DrawBestHubs) C_sp_DrawBestHubs (entry A_sp_DrawBestHubs I_sp_DrawBestHubs x)).map (keepRet tt K_sp_DrawBestHubs)).ev = ((T_sp_DrawBestHubs x.1.1).map fun r => some ((((r.1, (r.2.1, (r.2.2.1, (r.2.2.2, ())))), ())) : K_sp_DrawBestHubs.T)).ev := fun _ => by kernel_rfl
theorem o_sp_DrawBestHubs : LoopsOK E_sp_DrawBestHubs tt Z_sp_DrawBestHubs O_sp_DrawBestHubs C_sp_DrawBestHubs := by
  have h : loopsOf C_sp_DrawBestHubs = [] := by kernel_rfl
  unfold LoopsOK
  rw [h]
  exact fun _ h => absurd h List.not_mem_nil
theorem ok_sp_DrawBestHubs : FnOK prog E_sp_DrawBestHubs tt 58 D_sp_DrawBestHubs K_sp_DrawBestHubs Z_sp_DrawBestHubs O_sp_DrawBestHubs f58 C_sp_DrawBestHubs (fun x => T_sp_DrawBestHubs x.1.1) (fun r => ((r.1, (r.2.1, (r.2.2.1, (r.2.2.2, ())))), ())) where
  at_ := func58
  name := by kernel_rfl
  body := by kernel_rfl
  res := by kernel_rfl
  ok := by kernel_rfl
  arity := fun _ => Nat.le_of_ble_eq_true (by kernel_rfl)
  pin := fun _ => by kernel_rfl
  chk := by kernel_rfl
  loops := o_sp_DrawBestHubs
  run := e_sp_DrawBestHubs
  F := fun _ => rfl
  emb := fun _ => rfl
theorem fd_sp_DrawBestHubs : FDok prog (58, D_sp_DrawBestHubs) := fn_ok mixed (env_ok (List.forall_mem_cons.2 ⟨fd_sp_l1Cur_among, List.forall_mem_cons.2 ⟨fd_sp_l1Cur_ground, List.forall_mem_cons.2 ⟨fd_sp_l1Cur_flows, List.forall_mem_cons.2 ⟨fd_sp_l1Cur_discount, fun _ h => absurd h List.not_mem_nil⟩⟩⟩⟩)) tabOK ok_sp_DrawBestHubs
theorem e_im_bagOf : ∀ x : D_im_bagOf.T, ((acode E_im_bagOf tt Z_im_bagOf (orcOf O_im_bagOf) C_im_bagOf (entry A_im_bagOf I_im_bagOf x)).map (keepRet tt K_im_bagOf)).ev = ((T_im_bagOf x.1.1).map fun r => some ((((r, ()), ())) : K_im_bagOf.T)).ev := fun _ => by kernel_rfl
noncomputable def B_im_bagOf_0 : Code := ((loopsOf C_im_bagOf).find? fun p => Nat.beq p.1 0).elim .skip (·.2)
theorem l_im_bagOf_0 : (DL_im_bagOf_0).OK E_im_bagOf tt Z_im_bagOf (orcOf O_im_bagOf) B_im_bagOf_0 where
  ok := by kernel_rfl
  oke := by kernel_rfl
  okr := by kernel_rfl
  eta := fun _ => rfl
  step := fun _ _ => by kernel_rfl
theorem o_im_bagOf : LoopsOK E_im_bagOf tt Z_im_bagOf O_im_bagOf C_im_bagOf := by
  have h : loopsOf C_im_bagOf = [(0, B_im_bagOf_0)] := by kernel_rfl
  unfold LoopsOK
  rw [h]
  exact List.forall_mem_cons.2 ⟨fun d h => (by have e : some (DL_im_bagOf_0) = some d := h; cases e; exact l_im_bagOf_0), fun _ h => absurd h List.not_mem_nil⟩
theorem ok_im_bagOf : FnOK prog E_im_bagOf tt 90 D_im_bagOf K_im_bagOf Z_im_bagOf O_im_bagOf f90 C_im_bagOf (fun x => T_im_bagOf x.1.1) (fun r => ((r, ()), ())) where
  at_ := func90
  name := by kernel_rfl
  body := by kernel_rfl
  res := by kernel_rfl
  ok := by kernel_rfl
  arity := fun _ => Nat.le_of_ble_eq_true (by kernel_rfl)
  pin := fun _ => by kernel_rfl
  chk := by kernel_rfl
  loops := o_im_bagOf
  run := e_im_bagOf
  F := fun _ => rfl
  emb := fun _ => rfl
theorem fd_im_bagOf : FDok prog (90, D_im_bagOf) := fn_ok mixed (env_ok (fun _ h => absurd h List.not_mem_nil)) tabOK ok_im_bagOf
theorem e_math_bits_OnesCount64 : ∀ x : D_math_bits_OnesCount64.T, ((acode E_math_bits_OnesCount64 tt Z_math_bits_OnesCount64 (orcOf O_math_bits_OnesCount64) C_math_bits_OnesCount64 (entry A_math_bits_OnesCount64 I_math_bits_OnesCount64 x)).map (keepRet tt K_math_bits_OnesCount64)).ev = ((T_math_bits_OnesCount64 x.1.1).map fun r => some ((((r, ()), ())) : K_math_bits_OnesCount64.T)).ev := fun _ => by kernel_rfl
theorem o_math_bits_OnesCount64 : LoopsOK E_math_bits_OnesCount64 tt Z_math_bits_OnesCount64 O_math_bits_OnesCount64 C_math_bits_OnesCount64 := by
  have h : loopsOf C_math_bits_OnesCount64 = [] := by kernel_rfl
  unfold LoopsOK
  rw [h]
  exact fun _ h => absurd h List.not_mem_nil
theorem ok_math_bits_OnesCount64 : FnOK prog E_math_bits_OnesCount64 tt 188 D_math_bits_OnesCount64 K_math_bits_OnesCount64 Z_math_bits_OnesCount64 O_math_bits_OnesCount64 f188 C_math_bits_OnesCount64 (fun x => T_math_bits_OnesCount64 x.1.1) (fun r => ((r, ()), ())) where
  at_ := func188
  name := by kernel_rfl
  body := by kernel_rfl
  res := by kernel_rfl
  ok := by kernel_rfl
  arity := fun _ => Nat.le_of_ble_eq_true (by kernel_rfl)
  pin := fun _ => by kernel_rfl
  chk := by kernel_rfl
  loops := o_math_bits_OnesCount64
  run := e_math_bits_OnesCount64
  F := fun _ => rfl
  emb := fun _ => rfl
theorem fd_math_bits_OnesCount64 : FDok prog (188, D_math_bits_OnesCount64) := fn_ok mixed (env_ok (fun _ h => absurd h List.not_mem_nil)) tabOK ok_math_bits_OnesCount64
theorem e_math_bits_OnesCount : ∀ x : D_math_bits_OnesCount.T, ((acode E_math_bits_OnesCount tt Z_math_bits_OnesCount (orcOf O_math_bits_OnesCount) C_math_bits_OnesCount (entry A_math_bits_OnesCount I_math_bits_OnesCount x)).map (keepRet tt K_math_bits_OnesCount)).ev = ((T_math_bits_OnesCount x.1.1).map fun r => some ((((r, ()), ())) : K_math_bits_OnesCount.T)).ev := fun _ => by kernel_rfl
theorem o_math_bits_OnesCount : LoopsOK E_math_bits_OnesCount tt Z_math_bits_OnesCount O_math_bits_OnesCount C_math_bits_OnesCount := by
  have h : loopsOf C_math_bits_OnesCount = [] := by kernel_rfl
  unfold LoopsOK
  rw [h]
  exact fun _ h => absurd h List.not_mem_nil
theorem ok_math_bits_OnesCount : FnOK prog E_math_bits_OnesCount tt 147 D_math_bits_OnesCount K_math_bits_OnesCount Z_math_bits_OnesCount O_math_bits_OnesCount f147 C_math_bits_OnesCount (fun x => T_math_bits_OnesCount x.1.1) (fun r => ((r, ()), ())) where
  at_ := func147
  name := by kernel_rfl
  body := by kernel_rfl
  res := by kernel_rfl
  ok := by kernel_rfl
  arity := fun _ => Nat.le_of_ble_eq_true (by kernel_rfl)
  pin := fun _ => by kernel_rfl
  chk := by kernel_rfl
  loops := o_math_bits_OnesCount
  run := e_math_bits_OnesCount
  F := fun _ => rfl
  emb := fun _ => rfl
theorem fd_math_bits_OnesCount : FDok prog (147, D_math_bits_OnesCount) := fn_ok mixed (env_ok (List.forall_mem_cons.2 ⟨fd_math_bits_OnesCount64, fun _ h => absurd h List.not_mem_nil⟩)) tabOK ok_math_bits_OnesCount
theorem e_im_bag_size : ∀ x : D_im_bag_size.T, ((acode E_im_bag_size tt Z_im_bag_size (orcOf O_im_bag_size) C_im_bag_size (entry A_im_bag_size I_im_bag_size x)).map (keepRet tt K_im_bag_size)).ev = ((T_im_bag_size x.1.1).map fun r => some ((((r, ()), ())) : K_im_bag_size.T)).ev := fun _ => by kernel_rfl
theorem o_im_bag_size : LoopsOK E_im_bag_size tt Z_im_bag_size O_im_bag_size C_im_bag_size := by
  have h : loopsOf C_im_bag_size = [] := by kernel_rfl
  unfold LoopsOK
  rw [h]
  exact fun _ h => absurd h List.not_mem_nil
theorem ok_im_bag_size : FnOK prog E_im_bag_size tt 91 D_im_bag_size K_im_bag_size Z_im_bag_size O_im_bag_size f91 C_im_bag_size (fun x => T_im_bag_size x.1.1) (fun r => ((r, ()), ())) where
  at_ := func91
  name := by kernel_rfl
  body := by kernel_rfl
  res := by kernel_rfl
  ok := by kernel_rfl
  arity := fun _ => Nat.le_of_ble_eq_true (by kernel_rfl)
  pin := fun _ => by kernel_rfl
  chk := by kernel_rfl
  loops := o_im_bag_size
  run := e_im_bag_size
  F := fun _ => rfl
  emb := fun _ => rfl
theorem fd_im_bag_size : FDok prog (91, D_im_bag_size) := fn_ok mixed (env_ok (List.forall_mem_cons.2 ⟨fd_math_bits_OnesCount, fun _ h => absurd h List.not_mem_nil⟩)) tabOK ok_im_bag_size
theorem fd_slices_Clone_Sint_int : FDok prog (92, D_slices_Clone_Sint_int) := hand_clone
theorem e_im_BestHubs_1 (rec_ : (Int) → (Int) → (List (Int)) → (List (List (Int))) → Option ((Int) × ((Int) × ((List (Int)) × (List (List (Int))))))) : ∀ x : (Dr_im_BestHubs_1 rec_).T, ((acode (E_im_BestHubs_1 rec_) tt Z_im_BestHubs_1 (orcOf (O_im_BestHubs_1 rec_)) C_im_BestHubs_1 (entry A_im_BestHubs_1 I_im_BestHubs_1 x)).map (keepRet tt K_im_BestHubs_1)).ev = ((T_im_BestHubs_1 rec_ x.2.2.1.1 x.2.2.2.1.1 x.2.2.2.2.2.2.1 x.2.2.2.2.2.2.2.1).map fun r => some ((((), (((), ()), ((r.1, ()), ((r.2.1, ()), (((), ()), ((((), ((), ((), ((), ((), ()))))), ()), (r.2.2.1, (r.2.2.2, ()))))))))) : K_im_BestHubs_1.T)).ev := fun _ => by kernel_rfl
noncomputable def B_im_BestHubs_1_0 : Code := ((loopsOf C_im_BestHubs_1).find? fun p => Nat.beq p.1 0).elim .skip (·.2)
theorem l_im_BestHubs_1_0 (rec_ : (Int) → (Int) → (List (Int)) → (List (List (Int))) → Option ((Int) × ((Int) × ((List (Int)) × (List (List (Int))))))) : (DL_im_BestHubs_1_0 rec_).OK (E_im_BestHubs_1 rec_) tt Z_im_BestHubs_1 (orcOf (O_im_BestHubs_1 rec_)) B_im_BestHubs_1_0 where
  ok := by kernel_rfl
  oke := by kernel_rfl
  okr := by kernel_rfl
  eta := fun _ => rfl
  step := fun _ _ => by kernel_rfl
theorem o_im_BestHubs_1 (rec_ : (Int) → (Int) → (List (Int)) → (List (List (Int))) → Option ((Int) × ((Int) × ((List (Int)) × (List (List (Int))))))) : LoopsOK (E_im_BestHubs_1 rec_) tt Z_im_BestHubs_1 (O_im_BestHubs_1 rec_) C_im_BestHubs_1 := by
  have h : loopsOf C_im_BestHubs_1 = [(0, B_im_BestHubs_1_0)] := by kernel_rfl
  unfold LoopsOK
  rw [h]
  exact List.forall_mem_cons.2 ⟨fun d h => (by have e : some (DL_im_BestHubs_1_0 rec_) = some d := h; cases e; exact l_im_BestHubs_1_0 rec_), fun _ h => absurd h List.not_mem_nil⟩
theorem ok_im_BestHubs_1 (n : Nat) : FnOK prog (E_im_BestHubs_1 (F_im_BestHubs_1 n)) tt 88 (D_im_BestHubs_1 (n + 1)) K_im_BestHubs_1 Z_im_BestHubs_1 (O_im_BestHubs_1 (F_im_BestHubs_1 n)) f88 C_im_BestHubs_1 (fun x => T_im_BestHubs_1 (F_im_BestHubs_1 n) x.2.2.1.1 x.2.2.2.1.1 x.2.2.2.2.2.2.1 x.2.2.2.2.2.2.2.1) (fun r => ((), (((), ()), ((r.1, ()), ((r.2.1, ()), (((), ()), ((((), ((), ((), ((), ((), ()))))), ()), (r.2.2.1, (r.2.2.2, ()))))))))) where
  at_ := func88
  name := by kernel_rfl
  body := by kernel_rfl
  res := by kernel_rfl
  ok := by kernel_rfl
  arity := fun _ => Nat.le_of_ble_eq_true (by kernel_rfl)
  pin := fun _ => by kernel_rfl
  chk := by kernel_rfl
  loops := o_im_BestHubs_1 (F_im_BestHubs_1 n)
  run := e_im_BestHubs_1 (F_im_BestHubs_1 n)
  F := fun _ => rfl
  emb := fun _ => rfl
theorem fd_im_BestHubs_1 : ∀ n : Nat, FDok prog (88, D_im_BestHubs_1 n)
  | 0 => fun _ _ h => nomatch h
  | n + 1 => fn_ok mixed (env_ok (List.forall_mem_cons.2 ⟨fd_im_isAllocation, List.forall_mem_cons.2 ⟨fd_im_bagOf, List.forall_mem_cons.2 ⟨fd_im_bag_size, List.forall_mem_cons.2 ⟨fd_slices_Clone_Sint_int, List.forall_mem_cons.2 ⟨fd_im_BestHubs_1 n, fun _ h => absurd h List.not_mem_nil⟩⟩⟩⟩⟩)) tabOK (ok_im_BestHubs_1 n)
theorem e_im_least : ∀ x : D_im_least.T, ((acode E_im_least tt Z_im_least (orcOf O_im_least) C_im_least (entry A_im_least I_im_least x)).map (keepRet tt K_im_least)).ev = ((T_im_least x.1.2.1 x.2.1).map fun r => some (((((), ()), (r, ()))) : K_im_least.T)).ev := fun _ => by kernel_rfl
noncomputable def B_im_least_0 : Code := ((loopsOf C_im_least).find? fun p => Nat.beq p.1 0).elim .skip (·.2)
theorem l_im_least_0 : (DL_im_least_0).OK E_im_least tt Z_im_least (orcOf O_im_least) B_im_least_0 where
  ok := by kernel_rfl
  oke := by kernel_rfl
  okr := by kernel_rfl
  eta := fun _ => rfl
  step := fun _ _ => by kernel_rfl
theorem o_im_least : LoopsOK E_im_least tt Z_im_least O_im_least C_im_least := by
  have h : loopsOf C_im_least = [(0, B_im_least_0)] := by kernel_rfl
  unfold LoopsOK
  rw [h]
  exact List.forall_mem_cons.2 ⟨fun d h => (by have e : some (DL_im_least_0) = some d := h; cases e; exact l_im_least_0), fun _ h => absurd h List.not_mem_nil⟩
theorem ok_im_least : FnOK prog E_im_least tt 68 D_im_least K_im_least Z_im_least O_im_least f68 C_im_least (fun x => T_im_least x.1.2.1 x.2.1) (fun r => (((), ()), (r, ()))) where
  at_ := func68
  name := by kernel_rfl
  body := by kernel_rfl
  res := by kernel_rfl
  ok := by kernel_rfl
  arity := fun _ => Nat.le_of_ble_eq_true (by kernel_rfl)
  pin := fun _ => by kernel_rfl
  chk := by kernel_rfl
  loops := o_im_least
  run := e_im_least
  F := fun _ => rfl
  emb := fun _ => rfl
theorem fd_im_least : FDok prog (68, D_im_least) := fn_ok mixed (env_ok (fun _ h => absurd h List.not_mem_nil)) tabOK ok_im_least
theorem e_im_BestHubs_2 : ∀ x : D_im_BestHubs_2.T, ((acode E_im_BestHubs_2 tt Z_im_BestHubs_2 (orcOf O_im_BestHubs_2) C_im_BestHubs_2 (entry A_im_BestHubs_2 I_im_BestHubs_2 x)).map (keepRet tt K_im_BestHubs_2)).ev = ((T_im_BestHubs_2 x.1.1 x.1.2.1.1 x.1.2.2.1.1 x.1.2.2.2.1.1).map fun r => some ((((r, ()), ())) : K_im_BestHubs_2.T)).ev := fun _ => by kernel_rfl
theorem o_im_BestHubs_2 : LoopsOK E_im_BestHubs_2 tt Z_im_BestHubs_2 O_im_BestHubs_2 C_im_BestHubs_2 := by
  have h : loopsOf C_im_BestHubs_2 = [] := by kernel_rfl
  unfold LoopsOK
  rw [h]
  exact fun _ h => absurd h List.not_mem_nil
theorem ok_im_BestHubs_2 : FnOK prog E_im_BestHubs_2 tt 93 D_im_BestHubs_2 K_im_BestHubs_2 Z_im_BestHubs_2 O_im_BestHubs_2 f93 C_im_BestHubs_2 (fun x => T_im_BestHubs_2 x.1.1 x.1.2.1.1 x.1.2.2.1.1 x.1.2.2.2.1.1) (fun r => ((r, ()), ())) where
  at_ := func93
  name := by kernel_rfl
  body := by kernel_rfl
  res := by kernel_rfl
  ok := by kernel_rfl
  arity := fun _ => Nat.le_of_ble_eq_true (by kernel_rfl)
  pin := fun _ => by kernel_rfl
  chk := by kernel_rfl
  loops := o_im_BestHubs_2
  run := e_im_BestHubs_2
  F := fun _ => rfl
  emb := fun _ => rfl
theorem fd_im_BestHubs_2 : FDok prog (93, D_im_BestHubs_2) := fn_ok mixed (env_ok (List.forall_mem_cons.2 ⟨fd_im_hubCost, fun _ h => absurd h List.not_mem_nil⟩)) tabOK ok_im_BestHubs_2
theorem e_im_BestHubs : ∀ x : D_im_BestHubs.T, ((acode E_im_BestHubs tt Z_im_BestHubs (orcOf O_im_BestHubs) C_im_BestHubs (entry A_im_BestHubs I_im_BestHubs x)).map (keepRet tt K_im_BestHubs)).ev = ((T_im_BestHubs x.1.1 x.1.2.1 x.1.2.2.1 x.1.2.2.2.1).map fun r => some (((((), (r.1, ())), (r.2, ()))) : K_im_BestHubs.T)).ev := fun _ => by kernel_rfl
theorem o_im_BestHubs : LoopsOK E_im_BestHubs tt Z_im_BestHubs O_im_BestHubs C_im_BestHubs := by
  have h : loopsOf C_im_BestHubs = [] := by kernel_rfl
  unfold LoopsOK
  rw [h]
  exact fun _ h => absurd h List.not_mem_nil
theorem ok_im_BestHubs : FnOK prog E_im_BestHubs tt 31 D_im_BestHubs K_im_BestHubs Z_im_BestHubs O_im_BestHubs f31 C_im_BestHubs (fun x => T_im_BestHubs x.1.1 x.1.2.1 x.1.2.2.1 x.1.2.2.2.1) (fun r => (((), (r.1, ())), (r.2, ()))) where
  at_ := func31
  name := by kernel_rfl
  body := by kernel_rfl
  res := by kernel_rfl
  ok := by kernel_rfl
  arity := fun _ => Nat.le_of_ble_eq_true (by kernel_rfl)
  pin := fun _ => by kernel_rfl
  chk := by kernel_rfl
  loops := o_im_BestHubs
  run := e_im_BestHubs
  F := fun _ => rfl
  emb := fun _ => rfl
theorem fd_im_BestHubs : FDok prog (31, D_im_BestHubs) := fn_ok mixed (env_ok (List.forall_mem_cons.2 ⟨fd_im_isNet, List.forall_mem_cons.2 ⟨fd_im_areFlows, List.forall_mem_cons.2 ⟨fd_im_between, List.forall_mem_cons.2 ⟨fd_im_BestHubs_1 1000000, List.forall_mem_cons.2 ⟨fd_im_least, List.forall_mem_cons.2 ⟨fd_im_least, List.forall_mem_cons.2 ⟨fd_im_BestHubs_2, fun _ h => absurd h List.not_mem_nil⟩⟩⟩⟩⟩⟩⟩)) tabOK ok_im_BestHubs
theorem e_sp_l1Own : ∀ x : D_sp_l1Own.T, ((acode E_sp_l1Own tt Z_sp_l1Own (orcOf O_sp_l1Own) C_sp_l1Own (entry A_sp_l1Own I_sp_l1Own x)).map (keepRet tt K_sp_l1Own)).ev = ((T_sp_l1Own x.1.1).map fun r => some (((((), ()), (r, ()))) : K_sp_l1Own.T)).ev := fun _ => by kernel_rfl
theorem o_sp_l1Own : LoopsOK E_sp_l1Own tt Z_sp_l1Own O_sp_l1Own C_sp_l1Own := by
  have h : loopsOf C_sp_l1Own = [] := by kernel_rfl
  unfold LoopsOK
  rw [h]
  exact fun _ h => absurd h List.not_mem_nil
theorem ok_sp_l1Own : FnOK prog E_sp_l1Own tt 142 D_sp_l1Own K_sp_l1Own Z_sp_l1Own O_sp_l1Own f142 C_sp_l1Own (fun x => T_sp_l1Own x.1.1) (fun r => (((), ()), (r, ()))) where
  at_ := func142
  name := by kernel_rfl
  body := by kernel_rfl
  res := by kernel_rfl
  ok := by kernel_rfl
  arity := fun _ => Nat.le_of_ble_eq_true (by kernel_rfl)
  pin := fun _ => by kernel_rfl
  chk := by kernel_rfl
  loops := o_sp_l1Own
  run := e_sp_l1Own
  F := fun _ => rfl
  emb := fun _ => rfl
theorem fd_sp_l1Own : FDok prog (142, D_sp_l1Own) := fn_ok mixed (env_ok (fun _ h => absurd h List.not_mem_nil)) tabOK ok_sp_l1Own
theorem e_sp_l1Put : ∀ x : D_sp_l1Put.T, ((acode E_sp_l1Put tt Z_sp_l1Put (orcOf O_sp_l1Put) C_sp_l1Put (entry A_sp_l1Put I_sp_l1Put x)).map (keepRet tt K_sp_l1Put)).ev = ((T_sp_l1Put x.1.1 x.1.2.1).map fun r => some ((((r, ()), ())) : K_sp_l1Put.T)).ev := fun _ => by kernel_rfl
noncomputable def B_sp_l1Put_0 : Code := ((loopsOf C_sp_l1Put).find? fun p => Nat.beq p.1 0).elim .skip (·.2)
theorem l_sp_l1Put_0 : (DL_sp_l1Put_0).OK E_sp_l1Put tt Z_sp_l1Put (orcOf O_sp_l1Put) B_sp_l1Put_0 where
  ok := by kernel_rfl
  oke := by kernel_rfl
  okr := by kernel_rfl
  eta := fun _ => rfl
  step := fun _ _ => by kernel_rfl
theorem o_sp_l1Put : LoopsOK E_sp_l1Put tt Z_sp_l1Put O_sp_l1Put C_sp_l1Put := by
  have h : loopsOf C_sp_l1Put = [(0, B_sp_l1Put_0)] := by kernel_rfl
  unfold LoopsOK
  rw [h]
  exact List.forall_mem_cons.2 ⟨fun d h => (by have e : some (DL_sp_l1Put_0) = some d := h; cases e; exact l_sp_l1Put_0), fun _ h => absurd h List.not_mem_nil⟩
theorem ok_sp_l1Put : FnOK prog E_sp_l1Put tt 143 D_sp_l1Put K_sp_l1Put Z_sp_l1Put O_sp_l1Put f143 C_sp_l1Put (fun x => T_sp_l1Put x.1.1 x.1.2.1) (fun r => ((r, ()), ())) where
  at_ := func143
  name := by kernel_rfl
  body := by kernel_rfl
  res := by kernel_rfl
  ok := by kernel_rfl
  arity := fun _ => Nat.le_of_ble_eq_true (by kernel_rfl)
  pin := fun _ => by kernel_rfl
  chk := by kernel_rfl
  loops := o_sp_l1Put
  run := e_sp_l1Put
  F := fun _ => rfl
  emb := fun _ => rfl
theorem fd_sp_l1Put : FDok prog (143, D_sp_l1Put) := fn_ok mixed (env_ok (fun _ h => absurd h List.not_mem_nil)) tabOK ok_sp_l1Put
theorem e_sp_l11Try (rec_ : (List (List (Int))) → (List (List (Int))) → (Int) → (Int) → (List (Int)) → (List (Int)) → Option (List (Int))) : ∀ x : (Dr_sp_l11Try rec_).T, ((acode (E_sp_l11Try rec_) tt Z_sp_l11Try (orcOf (O_sp_l11Try rec_)) C_sp_l11Try (entry A_sp_l11Try I_sp_l11Try x)).map (keepRet tt K_sp_l11Try)).ev = ((T_sp_l11Try rec_ x.1.1 x.1.2.1 x.1.2.2.1 x.1.2.2.2.1 x.1.2.2.2.2.1 x.1.2.2.2.2.2.1).map fun r => some ((((r, ()), ())) : K_sp_l11Try.T)).ev := fun _ => by kernel_rfl
noncomputable def B_sp_l11Try_0 : Code := ((loopsOf C_sp_l11Try).find? fun p => Nat.beq p.1 0).elim .skip (·.2)
theorem l_sp_l11Try_0 (rec_ : (List (List (Int))) → (List (List (Int))) → (Int) → (Int) → (List (Int)) → (List (Int)) → Option (List (Int))) : (DL_sp_l11Try_0 rec_).OK (E_sp_l11Try rec_) tt Z_sp_l11Try (orcOf (O_sp_l11Try rec_)) B_sp_l11Try_0 where
  ok := by kernel_rfl
  oke := by kernel_rfl
  okr := by kernel_rfl
  eta := fun _ => rfl
  step := fun _ _ => by kernel_rfl
noncomputable def B_sp_l11Try_2 : Code := ((loopsOf C_sp_l11Try).find? fun p => Nat.beq p.1 2).elim .skip (·.2)
theorem l_sp_l11Try_2 (rec_ : (List (List (Int))) → (List (List (Int))) → (Int) → (Int) → (List (Int)) → (List (Int)) → Option (List (Int))) : (DL_sp_l11Try_2 rec_).OK (E_sp_l11Try rec_) tt Z_sp_l11Try (orcOf (O_sp_l11Try rec_)) B_sp_l11Try_2 where
  ok := by kernel_rfl
  oke := by kernel_rfl
  okr := by kernel_rfl
  eta := fun _ => rfl
  step := fun _ _ => by kernel_rfl
theorem o_sp_l11Try (rec_ : (List (List (Int))) → (List (List (Int))) → (Int) → (Int) → (List (Int)) → (List (Int)) → Option (List (Int))) : LoopsOK (E_sp_l11Try rec_) tt Z_sp_l11Try (O_sp_l11Try rec_) C_sp_l11Try := by
  have h : loopsOf C_sp_l11Try = [(0, B_sp_l11Try_0), (2, B_sp_l11Try_2)] := by kernel_rfl
  unfold LoopsOK
  rw [h]
  exact List.forall_mem_cons.2 ⟨fun d h => (by have e : some (DL_sp_l11Try_0 rec_) = some d := h; cases e; exact l_sp_l11Try_0 rec_), List.forall_mem_cons.2 ⟨fun d h => (by have e : some (DL_sp_l11Try_2 rec_) = some d := h; cases e; exact l_sp_l11Try_2 rec_), fun _ h => absurd h List.not_mem_nil⟩⟩
theorem ok_sp_l11Try (n : Nat) : FnOK prog (E_sp_l11Try (F_sp_l11Try n)) tt 85 (D_sp_l11Try (n + 1)) K_sp_l11Try Z_sp_l11Try (O_sp_l11Try (F_sp_l11Try n)) f85 C_sp_l11Try (fun x => T_sp_l11Try (F_sp_l11Try n) x.1.1 x.1.2.1 x.1.2.2.1 x.1.2.2.2.1 x.1.2.2.2.2.1 x.1.2.2.2.2.2.1) (fun r => ((r, ()), ())) where
  at_ := func85
  name := by kernel_rfl
  body := by kernel_rfl
  res := by kernel_rfl
  ok := by kernel_rfl
  arity := fun _ => Nat.le_of_ble_eq_true (by kernel_rfl)
  pin := fun _ => by kernel_rfl
  chk := by kernel_rfl
  loops := o_sp_l11Try (F_sp_l11Try n)
  run := e_sp_l11Try (F_sp_l11Try n)
  F := fun _ => rfl
  emb := fun _ => rfl
theorem fd_sp_l11Try : ∀ n : Nat, FDok prog (85, D_sp_l11Try n)
  | 0 => fun _ _ h => nomatch h
  | n + 1 => fn_ok mixed (env_ok (List.forall_mem_cons.2 ⟨fd_sp_l1Own, List.forall_mem_cons.2 ⟨fd_sp_l11Try n, List.forall_mem_cons.2 ⟨fd_sp_l1Put, List.forall_mem_cons.2 ⟨fd_sp_l11Hubs, List.forall_mem_cons.2 ⟨fd_sp_l11Cost, fun _ h => absurd h List.not_mem_nil⟩⟩⟩⟩⟩)) tabOK (ok_sp_l11Try n)
theorem e_sp_BestHubs : ∀ x : D_sp_BestHubs.T, ((acode E_sp_BestHubs tt Z_sp_BestHubs (orcOf O_sp_BestHubs) C_sp_BestHubs (entry A_sp_BestHubs I_sp_BestHubs x)).map (keepRet tt K_sp_BestHubs)).ev = ((T_sp_BestHubs x.1.1 x.1.2.1 x.1.2.2.1 x.1.2.2.2.1).map fun r => some ((((r.1, (r.2, ())), ())) : K_sp_BestHubs.T)).ev := fun _ => by kernel_rfl
theorem o_sp_BestHubs : LoopsOK E_sp_BestHubs tt Z_sp_BestHubs O_sp_BestHubs C_sp_BestHubs := by
  have h : loopsOf C_sp_BestHubs = [] := by kernel_rfl
  unfold LoopsOK
  rw [h]
  exact fun _ h => absurd h List.not_mem_nil
theorem ok_sp_BestHubs : FnOK prog E_sp_BestHubs tt 30 D_sp_BestHubs K_sp_BestHubs Z_sp_BestHubs O_sp_BestHubs f30 C_sp_BestHubs (fun x => T_sp_BestHubs x.1.1 x.1.2.1 x.1.2.2.1 x.1.2.2.2.1) (fun r => ((r.1, (r.2, ())), ())) where
  at_ := func30
  name := by kernel_rfl
  body := by kernel_rfl
  res := by kernel_rfl
  ok := by kernel_rfl
  arity := fun _ => Nat.le_of_ble_eq_true (by kernel_rfl)
  pin := fun _ => by kernel_rfl
  chk := by kernel_rfl
  loops := o_sp_BestHubs
  run := e_sp_BestHubs
  F := fun _ => rfl
  emb := fun _ => rfl
theorem fd_sp_BestHubs : FDok prog (30, D_sp_BestHubs) := fn_ok mixed (env_ok (List.forall_mem_cons.2 ⟨fd_sp_l11Flows, List.forall_mem_cons.2 ⟨fd_sp_l1In, List.forall_mem_cons.2 ⟨fd_sp_l11Try 1000000, fun _ h => absurd h List.not_mem_nil⟩⟩⟩)) tabOK ok_sp_BestHubs
theorem e_lw_rInts : ∀ x : D_lw_rInts.T, ((acode E_lw_rInts tt Z_lw_rInts (orcOf O_lw_rInts) C_lw_rInts (entry A_lw_rInts I_lw_rInts x)).map (keepRet tt K_lw_rInts)).ev = ((T_lw_rInts x.1.1 x.1.2.1).map fun r => some ((((r, ()), ())) : K_lw_rInts.T)).ev := fun _ => by kernel_rfl
noncomputable def B_lw_rInts_0 : Code := ((loopsOf C_lw_rInts).find? fun p => Nat.beq p.1 0).elim .skip (·.2)
theorem l_lw_rInts_0 : (DL_lw_rInts_0).OK E_lw_rInts tt Z_lw_rInts (orcOf O_lw_rInts) B_lw_rInts_0 where
  ok := by kernel_rfl
  oke := by kernel_rfl
  okr := by kernel_rfl
  eta := fun _ => rfl
  step := fun _ _ => by kernel_rfl
theorem o_lw_rInts : LoopsOK E_lw_rInts tt Z_lw_rInts O_lw_rInts C_lw_rInts := by
  have h : loopsOf C_lw_rInts = [(0, B_lw_rInts_0)] := by kernel_rfl
  unfold LoopsOK
  rw [h]
  exact List.forall_mem_cons.2 ⟨fun d h => (by have e : some (DL_lw_rInts_0) = some d := h; cases e; exact l_lw_rInts_0), fun _ h => absurd h List.not_mem_nil⟩
theorem ok_lw_rInts : FnOK prog E_lw_rInts tt 59 D_lw_rInts K_lw_rInts Z_lw_rInts O_lw_rInts f59 C_lw_rInts (fun x => T_lw_rInts x.1.1 x.1.2.1) (fun r => ((r, ()), ())) where
  at_ := func59
  name := by kernel_rfl
  body := by kernel_rfl
  res := by kernel_rfl
  ok := by kernel_rfl
  arity := fun _ => Nat.le_of_ble_eq_true (by kernel_rfl)
  pin := fun _ => by kernel_rfl
  chk := by kernel_rfl
  loops := o_lw_rInts
  run := e_lw_rInts
  F := fun _ => rfl
  emb := fun _ => rfl
theorem fd_lw_rInts : FDok prog (59, D_lw_rInts) := fn_ok mixed (env_ok (fun _ h => absurd h List.not_mem_nil)) tabOK ok_lw_rInts
theorem e_lw_rHas : ∀ x : D_lw_rHas.T, ((acode E_lw_rHas tt Z_lw_rHas (orcOf O_lw_rHas) C_lw_rHas (entry A_lw_rHas I_lw_rHas x)).map (keepRet tt K_lw_rHas)).ev = ((T_lw_rHas x.1.1 x.1.2.1).map fun r => some ((((r, ()), ())) : K_lw_rHas.T)).ev := fun _ => by kernel_rfl
noncomputable def B_lw_rHas_0 : Code := ((loopsOf C_lw_rHas).find? fun p => Nat.beq p.1 0).elim .skip (·.2)
theorem l_lw_rHas_0 : (DL_lw_rHas_0).OK E_lw_rHas tt Z_lw_rHas (orcOf O_lw_rHas) B_lw_rHas_0 where
  ok := by kernel_rfl
  oke := by kernel_rfl
  okr := by kernel_rfl
  eta := fun _ => rfl
  step := fun _ _ => by kernel_rfl
theorem o_lw_rHas : LoopsOK E_lw_rHas tt Z_lw_rHas O_lw_rHas C_lw_rHas := by
  have h : loopsOf C_lw_rHas = [(0, B_lw_rHas_0)] := by kernel_rfl
  unfold LoopsOK
  rw [h]
  exact List.forall_mem_cons.2 ⟨fun d h => (by have e : some (DL_lw_rHas_0) = some d := h; cases e; exact l_lw_rHas_0), fun _ h => absurd h List.not_mem_nil⟩
theorem ok_lw_rHas : FnOK prog E_lw_rHas tt 129 D_lw_rHas K_lw_rHas Z_lw_rHas O_lw_rHas f129 C_lw_rHas (fun x => T_lw_rHas x.1.1 x.1.2.1) (fun r => ((r, ()), ())) where
  at_ := func129
  name := by kernel_rfl
  body := by kernel_rfl
  res := by kernel_rfl
  ok := by kernel_rfl
  arity := fun _ => Nat.le_of_ble_eq_true (by kernel_rfl)
  pin := fun _ => by kernel_rfl
  chk := by kernel_rfl
  loops := o_lw_rHas
  run := e_lw_rHas
  F := fun _ => rfl
  emb := fun _ => rfl
theorem fd_lw_rHas : FDok prog (129, D_lw_rHas) := fn_ok mixed (env_ok (fun _ h => absurd h List.not_mem_nil)) tabOK ok_lw_rHas
theorem e_lw_rSorted : ∀ x : D_lw_rSorted.T, ((acode E_lw_rSorted tt Z_lw_rSorted (orcOf O_lw_rSorted) C_lw_rSorted (entry A_lw_rSorted I_lw_rSorted x)).map (keepRet tt K_lw_rSorted)).ev = ((T_lw_rSorted x.1.1).map fun r => some (((((), ()), (r, ()))) : K_lw_rSorted.T)).ev := fun _ => by kernel_rfl
noncomputable def B_lw_rSorted_0 : Code := ((loopsOf C_lw_rSorted).find? fun p => Nat.beq p.1 0).elim .skip (·.2)
theorem l_lw_rSorted_0 : (DL_lw_rSorted_0).OK E_lw_rSorted tt Z_lw_rSorted (orcOf O_lw_rSorted) B_lw_rSorted_0 where
  ok := by kernel_rfl
  oke := by kernel_rfl
  okr := by kernel_rfl
  eta := fun _ => rfl
  step := fun _ _ => by kernel_rfl
theorem o_lw_rSorted : LoopsOK E_lw_rSorted tt Z_lw_rSorted O_lw_rSorted C_lw_rSorted := by
  have h : loopsOf C_lw_rSorted = [(0, B_lw_rSorted_0)] := by kernel_rfl
  unfold LoopsOK
  rw [h]
  exact List.forall_mem_cons.2 ⟨fun d h => (by have e : some (DL_lw_rSorted_0) = some d := h; cases e; exact l_lw_rSorted_0), fun _ h => absurd h List.not_mem_nil⟩
theorem ok_lw_rSorted : FnOK prog E_lw_rSorted tt 60 D_lw_rSorted K_lw_rSorted Z_lw_rSorted O_lw_rSorted f60 C_lw_rSorted (fun x => T_lw_rSorted x.1.1) (fun r => (((), ()), (r, ()))) where
  at_ := func60
  name := by kernel_rfl
  body := by kernel_rfl
  res := by kernel_rfl
  ok := by kernel_rfl
  arity := fun _ => Nat.le_of_ble_eq_true (by kernel_rfl)
  pin := fun _ => by kernel_rfl
  chk := by kernel_rfl
  loops := o_lw_rSorted
  run := e_lw_rSorted
  F := fun _ => rfl
  emb := fun _ => rfl
theorem fd_lw_rSorted : FDok prog (60, D_lw_rSorted) := fn_ok mixed (env_ok (List.forall_mem_cons.2 ⟨fd_lw_rHas, fun _ h => absurd h List.not_mem_nil⟩)) tabOK ok_lw_rSorted
theorem e_im_IsMetricGround : ∀ x : D_im_IsMetricGround.T, ((acode E_im_IsMetricGround tt Z_im_IsMetricGround (orcOf O_im_IsMetricGround) C_im_IsMetricGround (entry A_im_IsMetricGround I_im_IsMetricGround x)).map (keepRet tt K_im_IsMetricGround)).ev = ((T_im_IsMetricGround x.1.1).map fun r => some ((((r.1, (r.2, ())), ())) : K_im_IsMetricGround.T)).ev := fun _ => by kernel_rfl
noncomputable def B_im_IsMetricGround_4 : Code := ((loopsOf C_im_IsMetricGround).find? fun p => Nat.beq p.1 4).elim .skip (·.2)
theorem l_im_IsMetricGround_4 : (DL_im_IsMetricGround_4).OK E_im_IsMetricGround tt Z_im_IsMetricGround (orcOf O_im_IsMetricGround) B_im_IsMetricGround_4 where
  ok := by kernel_rfl
  oke := by kernel_rfl
  okr := by kernel_rfl
  eta := fun _ => rfl
  step := fun _ _ => by kernel_rfl
noncomputable def B_im_IsMetricGround_2 : Code := ((loopsOf C_im_IsMetricGround).find? fun p => Nat.beq p.1 2).elim .skip (·.2)
theorem l_im_IsMetricGround_2 : (DL_im_IsMetricGround_2).OK E_im_IsMetricGround tt Z_im_IsMetricGround (orcOf O_im_IsMetricGround) B_im_IsMetricGround_2 where
  ok := by kernel_rfl
  oke := by kernel_rfl
  okr := by kernel_rfl
  eta := fun _ => rfl
  step := fun _ _ => by kernel_rfl
noncomputable def B_im_IsMetricGround_0 : Code := ((loopsOf C_im_IsMetricGround).find? fun p => Nat.beq p.1 0).elim .skip (·.2)
theorem l_im_IsMetricGround_0 : (DL_im_IsMetricGround_0).OK E_im_IsMetricGround tt Z_im_IsMetricGround (orcOf O_im_IsMetricGround) B_im_IsMetricGround_0 where
  ok := by kernel_rfl
  oke := by kernel_rfl
  okr := by kernel_rfl
  eta := fun _ => rfl
  step := fun _ _ => by kernel_rfl
theorem o_im_IsMetricGround : LoopsOK E_im_IsMetricGround tt Z_im_IsMetricGround O_im_IsMetricGround C_im_IsMetricGround := by
  have h : loopsOf C_im_IsMetricGround = [(0, B_im_IsMetricGround_0), (2, B_im_IsMetricGround_2), (4, B_im_IsMetricGround_4)] := by kernel_rfl
  unfold LoopsOK
  rw [h]
  exact List.forall_mem_cons.2 ⟨fun d h => (by have e : some (DL_im_IsMetricGround_0) = some d := h; cases e; exact l_im_IsMetricGround_0), List.forall_mem_cons.2 ⟨fun d h => (by have e : some (DL_im_IsMetricGround_2) = some d := h; cases e; exact l_im_IsMetricGround_2), List.forall_mem_cons.2 ⟨fun d h => (by have e : some (DL_im_IsMetricGround_4) = some d := h; cases e; exact l_im_IsMetricGround_4), fun _ h => absurd h List.not_mem_nil⟩⟩⟩
theorem ok_im_IsMetricGround : FnOK prog E_im_IsMetricGround tt 61 D_im_IsMetricGround K_im_IsMetricGround Z_im_IsMetricGround O_im_IsMetricGround f61 C_im_IsMetricGround (fun x => T_im_IsMetricGround x.1.1) (fun r => ((r.1, (r.2, ())), ())) where
  at_ := func61
  name := by kernel_rfl
  body := by kernel_rfl
  res := by kernel_rfl
  ok := by kernel_rfl
  arity := fun _ => Nat.le_of_ble_eq_true (by kernel_rfl)
  pin := fun _ => by kernel_rfl
  chk := by kernel_rfl
  loops := o_im_IsMetricGround
  run := e_im_IsMetricGround
  F := fun _ => rfl
  emb := fun _ => rfl
theorem fd_im_IsMetricGround : FDok prog (61, D_im_IsMetricGround) := fn_ok mixed (env_ok (List.forall_mem_cons.2 ⟨fd_im_IsGround, fun _ h => absurd h List.not_mem_nil⟩)) tabOK ok_im_IsMetricGround
theorem e_lw_FnHubs : ∀ x : D_lw_FnHubs.T, ((acode E_lw_FnHubs tt Z_lw_FnHubs (orcOf O_lw_FnHubs) C_lw_FnHubs (entry A_lw_FnHubs I_lw_FnHubs x)).map (keepRet tt K_lw_FnHubs)).ev = ((T_lw_FnHubs x.1.1).map fun r => some ((((r, ()), ())) : K_lw_FnHubs.T)).ev := fun _ => by kernel_rfl
noncomputable def B_lw_FnHubs_2 : Code := ((loopsOf C_lw_FnHubs).find? fun p => Nat.beq p.1 2).elim .skip (·.2)
theorem l_lw_FnHubs_2 : (DL_lw_FnHubs_2).OK E_lw_FnHubs tt Z_lw_FnHubs (orcOf O_lw_FnHubs) B_lw_FnHubs_2 where
  ok := by kernel_rfl
  oke := by kernel_rfl
  okr := by kernel_rfl
  eta := fun _ => rfl
  step := fun _ _ => by kernel_rfl
noncomputable def B_lw_FnHubs_0 : Code := ((loopsOf C_lw_FnHubs).find? fun p => Nat.beq p.1 0).elim .skip (·.2)
theorem l_lw_FnHubs_0 : (DL_lw_FnHubs_0).OK E_lw_FnHubs tt Z_lw_FnHubs (orcOf O_lw_FnHubs) B_lw_FnHubs_0 where
  ok := by kernel_rfl
  oke := by kernel_rfl
  okr := by kernel_rfl
  eta := fun _ => rfl
  step := fun _ _ => by kernel_rfl
noncomputable def B_lw_FnHubs_6 : Code := ((loopsOf C_lw_FnHubs).find? fun p => Nat.beq p.1 6).elim .skip (·.2)
theorem l_lw_FnHubs_6 : (DL_lw_FnHubs_6).OK E_lw_FnHubs tt Z_lw_FnHubs (orcOf O_lw_FnHubs) B_lw_FnHubs_6 where
  ok := by kernel_rfl
  oke := by kernel_rfl
  okr := by kernel_rfl
  eta := fun _ => rfl
  step := fun _ _ => by kernel_rfl
noncomputable def B_lw_FnHubs_4 : Code := ((loopsOf C_lw_FnHubs).find? fun p => Nat.beq p.1 4).elim .skip (·.2)
theorem l_lw_FnHubs_4 : (DL_lw_FnHubs_4).OK E_lw_FnHubs tt Z_lw_FnHubs (orcOf O_lw_FnHubs) B_lw_FnHubs_4 where
  ok := by kernel_rfl
  oke := by kernel_rfl
  okr := by kernel_rfl
  eta := fun _ => rfl
  step := fun _ _ => by kernel_rfl
theorem o_lw_FnHubs : LoopsOK E_lw_FnHubs tt Z_lw_FnHubs O_lw_FnHubs C_lw_FnHubs := by
  have h : loopsOf C_lw_FnHubs = [(0, B_lw_FnHubs_0), (2, B_lw_FnHubs_2), (4, B_lw_FnHubs_4), (6, B_lw_FnHubs_6)] := by kernel_rfl
  unfold LoopsOK
  rw [h]
  exact List.forall_mem_cons.2 ⟨fun d h => (by have e : some (DL_lw_FnHubs_0) = some d := h; cases e; exact l_lw_FnHubs_0), List.forall_mem_cons.2 ⟨fun d h => (by have e : some (DL_lw_FnHubs_2) = some d := h; cases e; exact l_lw_FnHubs_2), List.forall_mem_cons.2 ⟨fun d h => (by have e : some (DL_lw_FnHubs_4) = some d := h; cases e; exact l_lw_FnHubs_4), List.forall_mem_cons.2 ⟨fun d h => (by have e : some (DL_lw_FnHubs_6) = some d := h; cases e; exact l_lw_FnHubs_6), fun _ h => absurd h List.not_mem_nil⟩⟩⟩⟩
theorem ok_lw_FnHubs : FnOK prog E_lw_FnHubs tt 11 D_lw_FnHubs K_lw_FnHubs Z_lw_FnHubs O_lw_FnHubs f11 C_lw_FnHubs (fun x => T_lw_FnHubs x.1.1) (fun r => ((r, ()), ())) where
  at_ := func11
  name := by kernel_rfl
  body := by kernel_rfl
  res := by kernel_rfl
  ok := by kernel_rfl
  arity := fun _ => Nat.le_of_ble_eq_true (by kernel_rfl)
  pin := fun _ => by kernel_rfl
  chk := by kernel_rfl
  loops := o_lw_FnHubs
  run := e_lw_FnHubs
  F := fun _ => rfl
  emb := fun _ => rfl
theorem fd_lw_FnHubs : FDok prog (11, D_lw_FnHubs) := fn_ok mixed (env_ok (List.forall_mem_cons.2 ⟨fd_lw_rBig, List.forall_mem_cons.2 ⟨fd_sp_DrawHubCost, List.forall_mem_cons.2 ⟨fd_im_HubCost, List.forall_mem_cons.2 ⟨fd_sp_HubCost, List.forall_mem_cons.2 ⟨fd_im_IsAllocation, List.forall_mem_cons.2 ⟨fd_sp_IsAllocation, List.forall_mem_cons.2 ⟨fd_sp_DrawIsAllocation, List.forall_mem_cons.2 ⟨fd_sp_DrawBestHubs, List.forall_mem_cons.2 ⟨fd_im_BestHubs, List.forall_mem_cons.2 ⟨fd_sp_BestHubs, List.forall_mem_cons.2 ⟨fd_lw_rInts, List.forall_mem_cons.2 ⟨fd_lw_rSorted, List.forall_mem_cons.2 ⟨fd_im_IsMetricGround, fun _ h => absurd h List.not_mem_nil⟩⟩⟩⟩⟩⟩⟩⟩⟩⟩⟩⟩⟩)) tabOK ok_lw_FnHubs
end Go.Proofs.Ytlemejhffpkbkaa
