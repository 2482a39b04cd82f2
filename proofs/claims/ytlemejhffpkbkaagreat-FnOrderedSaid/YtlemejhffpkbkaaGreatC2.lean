import Derived.Test.YtlemejhffpkbkaaGreatC1
namespace Go.Proofs.YtlemejhffpkbkaaGreat
open Go.Proofs.Tryz
theorem yk {P : Program} {E : Env} {tt : Nat → TD} {f : Nat} {d : FD} {rt : RetK} {fz : Nat → Nat → List Nat} {l : List (Nat × LD)} {fn : Func} {c : Code} {T : d.T → Tr d.R} {rho : d.R → rt.T} (at_ : P.funcs[f]? = some fn) (loops : LoopsOK E tt fz l c)
    (run : ∀ x : d.T, ((acode E tt fz (orcOf l) c (entry d.A d.ins x)).map (keepRet tt rt)).ev = ((T x).map fun r => some (rho r)).ev) (F : ∀ x, d.F x = (T x).ev := by exact fun _ => rfl) (emb : ∀ r, d.emb r = (val rt.sh (rho r).1, mkObs rt.obs (rho r).2 ++ rt.gone.map fun o => (o, Ob.spent)) := by exact fun _ => rfl)
    (name : (fn.name == "runtime.NumGoroutine") = false := by kernel_rfl) (body : fn.body = some c := by kernel_rfl) (res : fn.results = rt.res.toArray := by kernel_rfl) (ok : rt.ok = true := by kernel_rfl)
    (arity : ∀ x : d.T, (val d.A x.1).length ≤ fn.ntmps := by exact fun _ => Nat.le_of_ble_eq_true (by kernel_rfl)) (pin : ∀ x : d.T, (rt.pins.all fun q => pinAt ((entry d.A d.ins x).slot q.1) q.2.1 q.2.2) = true := by exact fun _ => by kernel_rfl)
    (chk : codeChk fz (pinK rt.pins) fn.ntmps c = true := by kernel_rfl) (gone : (rt.gone.all fun o => (Nat.ble 64 o && (d.ins.map (·.1)).any (Nat.beq o)) && !(rt.obs.map (·.1)).any (Nat.beq o)) = true := by rfl) : FnOK P E tt f d rt fz l fn c T rho :=
  ⟨at_, name, body, res, ok, arity, pin, chk, loops, run, F, emb, gone⟩
theorem yl {E : Env} {tt : Nat → TD} {fz : Nat → Nat → List Nat} {orc : Orc} {b : Code} {d : LD} (eta : ∀ t, d.join (d.sk t) (d.sv t) = t) (step : ∀ k v, ((acode E tt fz orc b (mkSt d.head.S (d.join k v))).map (keepOut (some d.head) d.exits d.rets)).ev = ((d.step k v).bind (d.next k)).ev)
    (ok : d.head.S.ok = true := by kernel_rfl) (oke : d.exits.all (fun p => p.2.S.ok) = true := by kernel_rfl) (okr : d.rets.S.ok = true := by kernel_rfl) : d.OK E tt fz orc b := ⟨ok, oke, okr, eta, step⟩
theorem yz {E : Env} {tt : Nat → TD} {fz : Nat → Nat → List Nat} {l : List (Nat × LD)} {c : Code} (h : loopsOf c = []) : LoopsOK E tt fz l c := by
  unfold LoopsOK
  rw [h]
  exact yn
theorem mixed : prog.follows .mixedOrders = true := by kernel_rfl
theorem tabOK : TabOK prog tt := tab_ok (by kernel_rfl)
theorem e_zal : ∀ x : D_zal.T, ((acode E_zal tt Z_zal (orcOf O_zal) C_zal (entry A_zal I_zal x)).map (keepRet tt K_zal)).ev = ((T_zal x.1.1).map fun r => some ((((r, ()), ())) : K_zal.T)).ev := fun _ => by kernel_rfl
theorem o_zal : LoopsOK E_zal tt Z_zal O_zal C_zal := yz (by kernel_rfl)
theorem ok_zal : FnOK prog E_zal tt 6 D_zal K_zal Z_zal O_zal f6 C_zal (fun x => T_zal x.1.1) (fun r => ((r, ()), ())) := yk func6 o_zal e_zal
theorem fd_zal : FDok prog (6, D_zal) := fn_ok mixed (env_ok (yn)) tabOK ok_zal
theorem e_zca : ∀ x : D_zca.T, ((acode E_zca tt Z_zca (orcOf O_zca) C_zca (entry A_zca I_zca x)).map (keepRet tt K_zca)).ev = ((T_zca x.2.1.1 x.2.1.2.1 x.2.1.2.2.1).map fun r => some ((((r.1, ()), ((r.2.1, (r.2.2.1, (r.2.2.2, ()))), ()))) : K_zca.T)).ev := fun _ => by kernel_rfl
theorem o_zca : LoopsOK E_zca tt Z_zca O_zca C_zca := yz (by kernel_rfl)
theorem ok_zca : FnOK prog E_zca tt 115 D_zca K_zca Z_zca O_zca f115 C_zca (fun x => T_zca x.2.1.1 x.2.1.2.1 x.2.1.2.2.1) (fun r => ((r.1, ()), ((r.2.1, (r.2.2.1, (r.2.2.2, ()))), ()))) := yk func115 o_zca e_zca
theorem fd_zca : FDok prog (115, D_zca) := fn_ok mixed (env_ok (yn)) tabOK ok_zca
theorem e_zcc : ∀ x : D_zcc.T, ((acode E_zcc tt Z_zcc (orcOf O_zcc) C_zcc (entry A_zcc I_zcc x)).map (keepRet tt K_zcc)).ev = ((T_zcc x.1.2.1 x.2.1.1 x.2.1.2.1 x.2.1.2.2.1).map fun r => some ((((r.1, ()), ((r.2.1, (r.2.2.1, (r.2.2.2, ()))), ()))) : K_zcc.T)).ev := fun _ => by kernel_rfl
theorem o_zcc : LoopsOK E_zcc tt Z_zcc O_zcc C_zcc := yz (by kernel_rfl)
theorem ok_zcc : FnOK prog E_zcc tt 66 D_zcc K_zcc Z_zcc O_zcc f66 C_zcc (fun x => T_zcc x.1.2.1 x.2.1.1 x.2.1.2.1 x.2.1.2.2.1) (fun r => ((r.1, ()), ((r.2.1, (r.2.2.1, (r.2.2.2, ()))), ()))) := yk func66 o_zcc e_zcc
theorem fd_zcc : FDok prog (66, D_zcc) := fn_ok mixed (env_ok (yc ⟨fd_zca, yn⟩)) tabOK ok_zcc
theorem e_zbv : ∀ x : D_zbv.T, ((acode E_zbv tt Z_zbv (orcOf O_zbv) C_zbv (entry A_zbv I_zbv x)).map (keepRet tt K_zbv)).ev = ((T_zbv x.1.2.1 x.2.1.1 x.2.1.2.1 x.2.1.2.2.1).map fun r => some ((((r.1, ()), ((r.2.1, (r.2.2.1, (r.2.2.2, ()))), ()))) : K_zbv.T)).ev := fun _ => by kernel_rfl
theorem o_zbv : LoopsOK E_zbv tt Z_zbv O_zbv C_zbv := yz (by kernel_rfl)
theorem ok_zbv : FnOK prog E_zbv tt 47 D_zbv K_zbv Z_zbv O_zbv f47 C_zbv (fun x => T_zbv x.1.2.1 x.2.1.1 x.2.1.2.1 x.2.1.2.2.1) (fun r => ((r.1, ()), ((r.2.1, (r.2.2.1, (r.2.2.2, ()))), ()))) := yk func47 o_zbv e_zbv
theorem fd_zbv : FDok prog (47, D_zbv) := fn_ok mixed (env_ok (yc ⟨fd_zcc, yn⟩)) tabOK ok_zbv
theorem e_zcd : ∀ x : D_zcd.T, ((acode E_zcd tt Z_zcd (orcOf O_zcd) C_zcd (entry A_zcd I_zcd x)).map (keepRet tt K_zcd)).ev = ((T_zcd x.1.2.1 x.2.1.1 x.2.1.2.1 x.2.1.2.2.1).map fun r => some ((((((), ((), ())), ()), (r.1, (r.2.1, ((r.2.2.1, (r.2.2.2.1, (r.2.2.2.2, ()))), ()))))) : K_zcd.T)).ev := fun _ => by kernel_rfl
noncomputable def B_zcd_0 : Code := ((loopsOf C_zcd).find? fun p => Nat.beq p.1 0).elim .skip (·.2)
theorem l_zcd_0 : (DL_zcd_0).OK E_zcd tt Z_zcd (orcOf O_zcd) B_zcd_0 := yl (fun _ => rfl) fun _ _ => by kernel_rfl
noncomputable def B_zcd_4 : Code := ((loopsOf C_zcd).find? fun p => Nat.beq p.1 4).elim .skip (·.2)
theorem l_zcd_4 : (DL_zcd_4).OK E_zcd tt Z_zcd (orcOf O_zcd) B_zcd_4 := yl (fun _ => rfl) fun _ _ => by kernel_rfl
noncomputable def B_zcd_2 : Code := ((loopsOf C_zcd).find? fun p => Nat.beq p.1 2).elim .skip (·.2)
theorem l_zcd_2 : (DL_zcd_2).OK E_zcd tt Z_zcd (orcOf O_zcd) B_zcd_2 := yl (fun _ => rfl) fun _ _ => by kernel_rfl
theorem o_zcd : LoopsOK E_zcd tt Z_zcd O_zcd C_zcd := by
 have h : loopsOf C_zcd = [(0, B_zcd_0), (2, B_zcd_2), (4, B_zcd_4)] := by kernel_rfl
 unfold LoopsOK
 rw [h]
 exact yc ⟨fun d h => (by have e : some (DL_zcd_0) = some d := h; cases e; exact l_zcd_0), yc ⟨fun d h => (by have e : some (DL_zcd_2) = some d := h; cases e; exact l_zcd_2), yc ⟨fun d h => (by have e : some (DL_zcd_4) = some d := h; cases e; exact l_zcd_4), yn⟩⟩⟩
theorem ok_zcd : FnOK prog E_zcd tt 132 D_zcd K_zcd Z_zcd O_zcd f132 C_zcd (fun x => T_zcd x.1.2.1 x.2.1.1 x.2.1.2.1 x.2.1.2.2.1) (fun r => ((((), ((), ())), ()), (r.1, (r.2.1, ((r.2.2.1, (r.2.2.2.1, (r.2.2.2.2, ()))), ()))))) := yk func132 o_zcd e_zcd
theorem fd_zcd : FDok prog (132, D_zcd) := fn_ok mixed (env_ok (yc ⟨fd_zbv, yc ⟨fd_zcc, yn⟩⟩)) tabOK ok_zcd
theorem e_zck : ∀ x : D_zck.T, ((acode E_zck tt Z_zck (orcOf O_zck) C_zck (entry A_zck I_zck x)).map (keepRet tt K_zck)).ev = ((T_zck x.1.1).map fun r => some (((((), ()), (r, ()))) : K_zck.T)).ev := fun _ => by kernel_rfl
theorem o_zck : LoopsOK E_zck tt Z_zck O_zck C_zck := yz (by kernel_rfl)
theorem ok_zck : FnOK prog E_zck tt 157 D_zck K_zck Z_zck O_zck f157 C_zck (fun x => T_zck x.1.1) (fun r => (((), ()), (r, ()))) := yk func157 o_zck e_zck
theorem fd_zck : FDok prog (157, D_zck) := fn_ok mixed (env_ok (yn)) tabOK ok_zck
theorem e_zcf : ∀ x : D_zcf.T, ((acode E_zcf tt Z_zcf (orcOf O_zcf) C_zcf (entry A_zcf I_zcf x)).map (keepRet tt K_zcf)).ev = ((T_zcf x.2.1.1 x.2.1.2.1 x.2.1.2.2.1 x.2.2.1 x.2.2.2.1).map fun r => some ((((((), ((), ())), ()), (r.1, (r.2.1, ((r.2.2.1, (r.2.2.2.1, (r.2.2.2.2, ()))), ()))))) : K_zcf.T)).ev := fun _ => by kernel_rfl
noncomputable def B_zcf_1 : Code := ((loopsOf C_zcf).find? fun p => Nat.beq p.1 1).elim .skip (·.2)
theorem l_zcf_1 : (DL_zcf_1).OK E_zcf tt Z_zcf (orcOf O_zcf) B_zcf_1 := yl (fun _ => rfl) fun _ _ => by kernel_rfl
theorem o_zcf : LoopsOK E_zcf tt Z_zcf O_zcf C_zcf := by
 have h : loopsOf C_zcf = [(1, B_zcf_1)] := by kernel_rfl
 unfold LoopsOK
 rw [h]
 exact yc ⟨fun d h => (by have e : some (DL_zcf_1) = some d := h; cases e; exact l_zcf_1), yn⟩
theorem ok_zcf : FnOK prog E_zcf tt 131 D_zcf K_zcf Z_zcf O_zcf f131 C_zcf (fun x => T_zcf x.2.1.1 x.2.1.2.1 x.2.1.2.2.1 x.2.2.1 x.2.2.2.1) (fun r => ((((), ((), ())), ()), (r.1, (r.2.1, ((r.2.2.1, (r.2.2.2.1, (r.2.2.2.2, ()))), ()))))) := yk func131 o_zcf e_zcf
theorem fd_zcf : FDok prog (131, D_zcf) := fn_ok mixed (env_ok (yc ⟨fd_zcc, yc ⟨fd_zbv, yc ⟨fd_zck, yn⟩⟩⟩)) tabOK ok_zcf
theorem e_zcj : ∀ x : D_zcj.T, ((acode E_zcj tt Z_zcj (orcOf O_zcj) C_zcj (entry A_zcj I_zcj x)).map (keepRet tt K_zcj)).ev = ((T_zcj x.1.1 x.1.2.1).map fun r => some ((((r, ()), ())) : K_zcj.T)).ev := fun _ => by kernel_rfl
theorem o_zcj : LoopsOK E_zcj tt Z_zcj O_zcj C_zcj := yz (by kernel_rfl)
theorem ok_zcj : FnOK prog E_zcj tt 110 D_zcj K_zcj Z_zcj O_zcj f110 C_zcj (fun x => T_zcj x.1.1 x.1.2.1) (fun r => ((r, ()), ())) := yk func110 o_zcj e_zcj
theorem fd_zcj : FDok prog (110, D_zcj) := fn_ok mixed (env_ok (yn)) tabOK ok_zcj
theorem e_zbz : ∀ x : D_zbz.T, ((acode E_zbz tt Z_zbz (orcOf O_zbz) C_zbz (entry A_zbz I_zbz x)).map (keepRet tt K_zbz)).ev = ((T_zbz x.1.2.1 x.2.1.1 x.2.1.2.1 x.2.1.2.2.1).map fun r => some ((((((), ((), ())), ()), (r.1, (r.2.1, ((r.2.2.1, (r.2.2.2.1, (r.2.2.2.2, ()))), ()))))) : K_zbz.T)).ev := fun _ => by kernel_rfl
noncomputable def B_zbz_0 : Code := ((loopsOf C_zbz).find? fun p => Nat.beq p.1 0).elim .skip (·.2)
theorem l_zbz_0 : (DL_zbz_0).OK E_zbz tt Z_zbz (orcOf O_zbz) B_zbz_0 := yl (fun _ => rfl) fun _ _ => by kernel_rfl
noncomputable def B_zbz_4 : Code := ((loopsOf C_zbz).find? fun p => Nat.beq p.1 4).elim .skip (·.2)
theorem l_zbz_4 : (DL_zbz_4).OK E_zbz tt Z_zbz (orcOf O_zbz) B_zbz_4 := yl (fun _ => rfl) fun _ _ => by kernel_rfl
noncomputable def B_zbz_2 : Code := ((loopsOf C_zbz).find? fun p => Nat.beq p.1 2).elim .skip (·.2)
theorem l_zbz_2 : (DL_zbz_2).OK E_zbz tt Z_zbz (orcOf O_zbz) B_zbz_2 := yl (fun _ => rfl) fun _ _ => by kernel_rfl
theorem o_zbz : LoopsOK E_zbz tt Z_zbz O_zbz C_zbz := by
 have h : loopsOf C_zbz = [(0, B_zbz_0), (2, B_zbz_2), (4, B_zbz_4)] := by kernel_rfl
 unfold LoopsOK
 rw [h]
 exact yc ⟨fun d h => (by have e : some (DL_zbz_0) = some d := h; cases e; exact l_zbz_0), yc ⟨fun d h => (by have e : some (DL_zbz_2) = some d := h; cases e; exact l_zbz_2), yc ⟨fun d h => (by have e : some (DL_zbz_4) = some d := h; cases e; exact l_zbz_4), yn⟩⟩⟩
theorem ok_zbz : FnOK prog E_zbz tt 133 D_zbz K_zbz Z_zbz O_zbz f133 C_zbz (fun x => T_zbz x.1.2.1 x.2.1.1 x.2.1.2.1 x.2.1.2.2.1) (fun r => ((((), ((), ())), ()), (r.1, (r.2.1, ((r.2.2.1, (r.2.2.2.1, (r.2.2.2.2, ()))), ()))))) := yk func133 o_zbz e_zbz
theorem fd_zbz : FDok prog (133, D_zbz) := fn_ok mixed (env_ok (yc ⟨fd_zcd, yc ⟨fd_zcc, yc ⟨fd_zcj, yn⟩⟩⟩)) tabOK ok_zbz
theorem e_zcs : ∀ x : D_zcs.T, ((acode E_zcs tt Z_zcs (orcOf O_zcs) C_zcs (entry A_zcs I_zcs x)).map (keepRet tt K_zcs)).ev = ((T_zcs x.1.1.1 x.1.1.2.1).map fun r => some ((((((), ((), ())), ()), (r.1, (r.2, ())))) : K_zcs.T)).ev := fun _ => by kernel_rfl
noncomputable def B_zcs_0 : Code := ((loopsOf C_zcs).find? fun p => Nat.beq p.1 0).elim .skip (·.2)
theorem l_zcs_0 : (DL_zcs_0).OK E_zcs tt Z_zcs (orcOf O_zcs) B_zcs_0 := yl (fun _ => rfl) fun _ _ => by kernel_rfl
theorem o_zcs : LoopsOK E_zcs tt Z_zcs O_zcs C_zcs := by
 have h : loopsOf C_zcs = [(0, B_zcs_0)] := by kernel_rfl
 unfold LoopsOK
 rw [h]
 exact yc ⟨fun d h => (by have e : some (DL_zcs_0) = some d := h; cases e; exact l_zcs_0), yn⟩
theorem ok_zcs : FnOK prog E_zcs tt 158 D_zcs K_zcs Z_zcs O_zcs f158 C_zcs (fun x => T_zcs x.1.1.1 x.1.1.2.1) (fun r => ((((), ((), ())), ()), (r.1, (r.2, ())))) := yk func158 o_zcs e_zcs
theorem fd_zcs : FDok prog (158, D_zcs) := fn_ok mixed (env_ok (yc ⟨fd_zck, yn⟩)) tabOK ok_zcs
theorem e_zcq : ∀ x : D_zcq.T, ((acode E_zcq tt Z_zcq (orcOf O_zcq) C_zcq (entry A_zcq I_zcq x)).map (keepRet tt K_zcq)).ev = ((T_zcq x.1.1.1 x.1.1.2.1).map fun r => some ((((r, ()), ())) : K_zcq.T)).ev := fun _ => by kernel_rfl
noncomputable def B_zcq_6 : Code := ((loopsOf C_zcq).find? fun p => Nat.beq p.1 6).elim .skip (·.2)
theorem l_zcq_6 : (DL_zcq_6).OK E_zcq tt Z_zcq (orcOf O_zcq) B_zcq_6 := yl (fun _ => rfl) fun _ _ => by kernel_rfl
noncomputable def B_zcq_4 : Code := ((loopsOf C_zcq).find? fun p => Nat.beq p.1 4).elim .skip (·.2)
theorem l_zcq_4 : (DL_zcq_4).OK E_zcq tt Z_zcq (orcOf O_zcq) B_zcq_4 := yl (fun _ => rfl) fun _ _ => by kernel_rfl
noncomputable def B_zcq_2 : Code := ((loopsOf C_zcq).find? fun p => Nat.beq p.1 2).elim .skip (·.2)
theorem l_zcq_2 : (DL_zcq_2).OK E_zcq tt Z_zcq (orcOf O_zcq) B_zcq_2 := yl (fun _ => rfl) fun _ _ => by kernel_rfl
noncomputable def B_zcq_0 : Code := ((loopsOf C_zcq).find? fun p => Nat.beq p.1 0).elim .skip (·.2)
theorem l_zcq_0 : (DL_zcq_0).OK E_zcq tt Z_zcq (orcOf O_zcq) B_zcq_0 := yl (fun _ => rfl) fun _ _ => by kernel_rfl
theorem o_zcq : LoopsOK E_zcq tt Z_zcq O_zcq C_zcq := by
 have h : loopsOf C_zcq = [(0, B_zcq_0), (2, B_zcq_2), (4, B_zcq_4), (6, B_zcq_6)] := by kernel_rfl
 unfold LoopsOK
 rw [h]
 exact yc ⟨fun d h => (by have e : some (DL_zcq_0) = some d := h; cases e; exact l_zcq_0), yc ⟨fun d h => (by have e : some (DL_zcq_2) = some d := h; cases e; exact l_zcq_2), yc ⟨fun d h => (by have e : some (DL_zcq_4) = some d := h; cases e; exact l_zcq_4), yc ⟨fun d h => (by have e : some (DL_zcq_6) = some d := h; cases e; exact l_zcq_6), yn⟩⟩⟩⟩
theorem ok_zcq : FnOK prog E_zcq tt 159 D_zcq K_zcq Z_zcq O_zcq f159 C_zcq (fun x => T_zcq x.1.1.1 x.1.1.2.1) (fun r => ((r, ()), ())) := yk func159 o_zcq e_zcq
theorem fd_zcq : FDok prog (159, D_zcq) := fn_ok mixed (env_ok (yn)) tabOK ok_zcq
theorem e_zci : ∀ x : D_zci.T, ((acode E_zci tt Z_zci (orcOf O_zci) C_zci (entry A_zci I_zci x)).map (keepRet tt K_zci)).ev = ((T_zci x.1.1 x.1.2.1).map fun r => some ((((r, ()), ())) : K_zci.T)).ev := fun _ => by kernel_rfl
theorem o_zci : LoopsOK E_zci tt Z_zci O_zci C_zci := yz (by kernel_rfl)
theorem ok_zci : FnOK prog E_zci tt 109 D_zci K_zci Z_zci O_zci f109 C_zci (fun x => T_zci x.1.1 x.1.2.1) (fun r => ((r, ()), ())) := yk func109 o_zci e_zci
theorem fd_zci : FDok prog (109, D_zci) := fn_ok mixed (env_ok (yn)) tabOK ok_zci
theorem e_zco : ∀ x : D_zco.T, ((acode E_zco tt Z_zco (orcOf O_zco) C_zco (entry A_zco I_zco x)).map (keepRet tt K_zco)).ev = ((T_zco x.1.1.1 x.1.1.2.1).map fun r => some ((((((), ((), ())), ()), (r.1, (r.2, ())))) : K_zco.T)).ev := fun _ => by kernel_rfl
noncomputable def B_zco_8 : Code := ((loopsOf C_zco).find? fun p => Nat.beq p.1 8).elim .skip (·.2)
theorem l_zco_8 : (DL_zco_8).OK E_zco tt Z_zco (orcOf O_zco) B_zco_8 := yl (fun _ => rfl) fun _ _ => by kernel_rfl
noncomputable def B_zco_6 : Code := ((loopsOf C_zco).find? fun p => Nat.beq p.1 6).elim .skip (·.2)
theorem l_zco_6 : (DL_zco_6).OK E_zco tt Z_zco (orcOf O_zco) B_zco_6 := yl (fun _ => rfl) fun _ _ => by kernel_rfl
noncomputable def B_zco_4 : Code := ((loopsOf C_zco).find? fun p => Nat.beq p.1 4).elim .skip (·.2)
theorem l_zco_4 : (DL_zco_4).OK E_zco tt Z_zco (orcOf O_zco) B_zco_4 := yl (fun _ => rfl) fun _ _ => by kernel_rfl
noncomputable def B_zco_2 : Code := ((loopsOf C_zco).find? fun p => Nat.beq p.1 2).elim .skip (·.2)
theorem l_zco_2 : (DL_zco_2).OK E_zco tt Z_zco (orcOf O_zco) B_zco_2 := yl (fun _ => rfl) fun _ _ => by kernel_rfl
noncomputable def B_zco_0 : Code := ((loopsOf C_zco).find? fun p => Nat.beq p.1 0).elim .skip (·.2)
theorem l_zco_0 : (DL_zco_0).OK E_zco tt Z_zco (orcOf O_zco) B_zco_0 := yl (fun _ => rfl) fun _ _ => by kernel_rfl
theorem o_zco : LoopsOK E_zco tt Z_zco O_zco C_zco := by
 have h : loopsOf C_zco = [(0, B_zco_0), (2, B_zco_2), (4, B_zco_4), (6, B_zco_6), (8, B_zco_8)] := by kernel_rfl
 unfold LoopsOK
 rw [h]
 exact yc ⟨fun d h => (by have e : some (DL_zco_0) = some d := h; cases e; exact l_zco_0), yc ⟨fun d h => (by have e : some (DL_zco_2) = some d := h; cases e; exact l_zco_2), yc ⟨fun d h => (by have e : some (DL_zco_4) = some d := h; cases e; exact l_zco_4), yc ⟨fun d h => (by have e : some (DL_zco_6) = some d := h; cases e; exact l_zco_6), yc ⟨fun d h => (by have e : some (DL_zco_8) = some d := h; cases e; exact l_zco_8), yn⟩⟩⟩⟩⟩
theorem ok_zco : FnOK prog E_zco tt 134 D_zco K_zco Z_zco O_zco f134 C_zco (fun x => T_zco x.1.1.1 x.1.1.2.1) (fun r => ((((), ((), ())), ()), (r.1, (r.2, ())))) := yk func134 o_zco e_zco
theorem fd_zco : FDok prog (134, D_zco) := fn_ok mixed (env_ok (yc ⟨fd_zcs, yc ⟨fd_zcq, yc ⟨fd_zci, yn⟩⟩⟩)) tabOK ok_zco
theorem e_zby : ∀ x : D_zby.T, ((acode E_zby tt Z_zby (orcOf O_zby) C_zby (entry A_zby I_zby x)).map (keepRet tt K_zby)).ev = ((T_zby x.1.2.1 x.2.1.1 x.2.1.2.1 x.2.1.2.2.1).map fun r => some ((((((), ((), ())), ()), (r.1, (r.2.1, ((r.2.2.1, (r.2.2.2.1, (r.2.2.2.2, ()))), ()))))) : K_zby.T)).ev := fun _ => by kernel_rfl
theorem o_zby : LoopsOK E_zby tt Z_zby O_zby C_zby := yz (by kernel_rfl)
theorem ok_zby : FnOK prog E_zby tt 95 D_zby K_zby Z_zby O_zby f95 C_zby (fun x => T_zby x.1.2.1 x.2.1.1 x.2.1.2.1 x.2.1.2.2.1) (fun r => ((((), ((), ())), ()), (r.1, (r.2.1, ((r.2.2.1, (r.2.2.2.1, (r.2.2.2.2, ()))), ()))))) := yk func95 o_zby e_zby
theorem fd_zby : FDok prog (95, D_zby) := fn_ok mixed (env_ok (yc ⟨fd_zcc, yc ⟨fd_zcd, yc ⟨fd_zcf, yc ⟨fd_zbz, yc ⟨fd_zco, yn⟩⟩⟩⟩⟩)) tabOK ok_zby
theorem e_zbx : ∀ x : D_zbx.T, ((acode E_zbx tt Z_zbx (orcOf O_zbx) C_zbx (entry A_zbx I_zbx x)).map (keepRet tt K_zbx)).ev = ((T_zbx x.2.1.1 x.2.1.2.1 x.2.1.2.2.1).map fun r => some ((((((), ((), ())), ()), (r.1, (r.2.1, ((r.2.2.1, (r.2.2.2.1, (r.2.2.2.2, ()))), ()))))) : K_zbx.T)).ev := fun _ => by kernel_rfl
theorem o_zbx : LoopsOK E_zbx tt Z_zbx O_zbx C_zbx := yz (by kernel_rfl)
theorem ok_zbx : FnOK prog E_zbx tt 79 D_zbx K_zbx Z_zbx O_zbx f79 C_zbx (fun x => T_zbx x.2.1.1 x.2.1.2.1 x.2.1.2.2.1) (fun r => ((((), ((), ())), ()), (r.1, (r.2.1, ((r.2.2.1, (r.2.2.2.1, (r.2.2.2.2, ()))), ()))))) := yk func79 o_zbx e_zbx
theorem fd_zbx : FDok prog (79, D_zbx) := fn_ok mixed (env_ok (yc ⟨fd_zby, yn⟩)) tabOK ok_zbx
theorem e_zcn : ∀ x : D_zcn.T, ((acode E_zcn tt Z_zcn (orcOf O_zcn) C_zcn (entry A_zcn I_zcn x)).map (keepRet tt K_zcn)).ev = ((T_zcn x.1.1 x.1.2.1).map fun r => some (((((), ()), (r, ()))) : K_zcn.T)).ev := fun _ => by kernel_rfl
noncomputable def B_zcn_0 : Code := ((loopsOf C_zcn).find? fun p => Nat.beq p.1 0).elim .skip (·.2)
theorem l_zcn_0 : (DL_zcn_0).OK E_zcn tt Z_zcn (orcOf O_zcn) B_zcn_0 := yl (fun _ => rfl) fun _ _ => by kernel_rfl
theorem o_zcn : LoopsOK E_zcn tt Z_zcn O_zcn C_zcn := by
 have h : loopsOf C_zcn = [(0, B_zcn_0)] := by kernel_rfl
 unfold LoopsOK
 rw [h]
 exact yc ⟨fun d h => (by have e : some (DL_zcn_0) = some d := h; cases e; exact l_zcn_0), yn⟩
theorem ok_zcn : FnOK prog E_zcn tt 65 D_zcn K_zcn Z_zcn O_zcn f65 C_zcn (fun x => T_zcn x.1.1 x.1.2.1) (fun r => (((), ()), (r, ()))) := yk func65 o_zcn e_zcn
theorem fd_zcn : FDok prog (65, D_zcn) := fn_ok mixed (env_ok (yn)) tabOK ok_zcn
theorem e_zcb : ∀ x : D_zcb.T, ((acode E_zcb tt Z_zcb (orcOf O_zcb) C_zcb (entry A_zcb I_zcb x)).map (keepRet tt K_zcb)).ev = ((T_zcb x.1.2.1 x.2.1.1 x.2.1.2.1 x.2.1.2.2.1).map fun r => some ((((r.1, ()), ((r.2.1, (r.2.2.1, (r.2.2.2, ()))), ()))) : K_zcb.T)).ev := fun _ => by kernel_rfl
theorem o_zcb : LoopsOK E_zcb tt Z_zcb O_zcb C_zcb := yz (by kernel_rfl)
theorem ok_zcb : FnOK prog E_zcb tt 67 D_zcb K_zcb Z_zcb O_zcb f67 C_zcb (fun x => T_zcb x.1.2.1 x.2.1.1 x.2.1.2.1 x.2.1.2.2.1) (fun r => ((r.1, ()), ((r.2.1, (r.2.2.1, (r.2.2.2, ()))), ()))) := yk func67 o_zcb e_zcb
theorem fd_zcb : FDok prog (67, D_zcb) := fn_ok mixed (env_ok (yc ⟨fd_zcc, yn⟩)) tabOK ok_zcb
theorem e_zce : ∀ x : D_zce.T, ((acode E_zce tt Z_zce (orcOf O_zce) C_zce (entry A_zce I_zce x)).map (keepRet tt K_zce)).ev = ((T_zce x.1.2.1.1 x.1.2.1.2.1 x.2.1.1 x.2.1.2.1 x.2.1.2.2.1).map fun r => some (((((), ()), (r.1, ((r.2.1, (r.2.2.1, (r.2.2.2, ()))), ())))) : K_zce.T)).ev := fun _ => by kernel_rfl
theorem o_zce : LoopsOK E_zce tt Z_zce O_zce C_zce := yz (by kernel_rfl)
theorem ok_zce : FnOK prog E_zce tt 80 D_zce K_zce Z_zce O_zce f80 C_zce (fun x => T_zce x.1.2.1.1 x.1.2.1.2.1 x.2.1.1 x.2.1.2.1 x.2.1.2.2.1) (fun r => (((), ()), (r.1, ((r.2.1, (r.2.2.1, (r.2.2.2, ()))), ())))) := yk func80 o_zce e_zce
theorem fd_zce : FDok prog (80, D_zce) := fn_ok mixed (env_ok (yc ⟨fd_zci, yc ⟨fd_zcc, yc ⟨fd_zcn, yc ⟨fd_zcb, yc ⟨fd_zbv, yn⟩⟩⟩⟩⟩)) tabOK ok_zce
theorem e_zcg : ∀ x : D_zcg.T, ((acode E_zcg tt Z_zcg (orcOf O_zcg) C_zcg (entry A_zcg I_zcg x)).map (keepRet tt K_zcg)).ev = ((T_zcg x.1.2.1.1 x.1.2.1.2.1 x.2.1.1 x.2.1.2.1 x.2.1.2.2.1).map fun r => some (((((), ()), (r.1, ((r.2.1, (r.2.2.1, (r.2.2.2, ()))), ())))) : K_zcg.T)).ev := fun _ => by kernel_rfl
noncomputable def B_zcg_0 : Code := ((loopsOf C_zcg).find? fun p => Nat.beq p.1 0).elim .skip (·.2)
theorem l_zcg_0 : (DL_zcg_0).OK E_zcg tt Z_zcg (orcOf O_zcg) B_zcg_0 := yl (fun _ => rfl) fun _ _ => by kernel_rfl
theorem o_zcg : LoopsOK E_zcg tt Z_zcg O_zcg C_zcg := by
 have h : loopsOf C_zcg = [(0, B_zcg_0)] := by kernel_rfl
 unfold LoopsOK
 rw [h]
 exact yc ⟨fun d h => (by have e : some (DL_zcg_0) = some d := h; cases e; exact l_zcg_0), yn⟩
theorem ok_zcg : FnOK prog E_zcg tt 81 D_zcg K_zcg Z_zcg O_zcg f81 C_zcg (fun x => T_zcg x.1.2.1.1 x.1.2.1.2.1 x.2.1.1 x.2.1.2.1 x.2.1.2.2.1) (fun r => (((), ()), (r.1, ((r.2.1, (r.2.2.1, (r.2.2.2, ()))), ())))) := yk func81 o_zcg e_zcg
theorem fd_zcg : FDok prog (81, D_zcg) := fn_ok mixed (env_ok (yc ⟨fd_zcc, yc ⟨fd_zbv, yc ⟨fd_zcb, yn⟩⟩⟩)) tabOK ok_zcg
theorem e_zbr : ∀ x : D_zbr.T, ((acode E_zbr tt Z_zbr (orcOf O_zbr) C_zbr (entry A_zbr I_zbr x)).map (keepRet tt K_zbr)).ev = ((T_zbr x.1.1).map fun r => some (((((r.1, (r.2.1, ())), ((), ((), ()))), (r.2.2.1, (r.2.2.2, ())))) : K_zbr.T)).ev := fun _ => by kernel_rfl
theorem o_zbr : LoopsOK E_zbr tt Z_zbr O_zbr C_zbr := yz (by kernel_rfl)
theorem ok_zbr : FnOK prog E_zbr tt 26 D_zbr K_zbr Z_zbr O_zbr f26 C_zbr (fun x => T_zbr x.1.1) (fun r => (((r.1, (r.2.1, ())), ((), ((), ()))), (r.2.2.1, (r.2.2.2, ())))) := yk func26 o_zbr e_zbr
theorem fd_zbr : FDok prog (26, D_zbr) := fn_ok mixed (env_ok (yc ⟨fd_zbx, yc ⟨fd_zce, yc ⟨fd_zcg, yn⟩⟩⟩)) tabOK ok_zbr
theorem e_zaa : ∀ x : D_zaa.T, ((acode E_zaa tt Z_zaa (orcOf O_zaa) C_zaa (entry A_zaa I_zaa x)).map (keepRet tt K_zaa)).ev = ((T_zaa x.1.1 x.1.2.1 x.1.2.2.1).map fun r => some ((((r, ()), ())) : K_zaa.T)).ev := fun _ => by kernel_rfl
theorem o_zaa : LoopsOK E_zaa tt Z_zaa O_zaa C_zaa := yz (by kernel_rfl)
theorem ok_zaa : FnOK prog E_zaa tt 48 D_zaa K_zaa Z_zaa O_zaa f48 C_zaa (fun x => T_zaa x.1.1 x.1.2.1 x.1.2.2.1) (fun r => ((r, ()), ())) := yk func48 o_zaa e_zaa
theorem fd_zaa : FDok prog (48, D_zaa) := fn_ok mixed (env_ok (yn)) tabOK ok_zaa
theorem e_zau : ∀ x : D_zau.T, ((acode E_zau tt Z_zau (orcOf O_zau) C_zau (entry A_zau I_zau x)).map (keepRet tt K_zau)).ev = ((T_zau x.1.1 x.1.2.1).map fun r => some ((((r, ()), ())) : K_zau.T)).ev := fun _ => by kernel_rfl
noncomputable def B_zau_0 : Code := ((loopsOf C_zau).find? fun p => Nat.beq p.1 0).elim .skip (·.2)
theorem l_zau_0 : (DL_zau_0).OK E_zau tt Z_zau (orcOf O_zau) B_zau_0 := yl (fun _ => rfl) fun _ _ => by kernel_rfl
theorem o_zau : LoopsOK E_zau tt Z_zau O_zau C_zau := by
 have h : loopsOf C_zau = [(0, B_zau_0)] := by kernel_rfl
 unfold LoopsOK
 rw [h]
 exact yc ⟨fun d h => (by have e : some (DL_zau_0) = some d := h; cases e; exact l_zau_0), yn⟩
theorem ok_zau : FnOK prog E_zau tt 119 D_zau K_zau Z_zau O_zau f119 C_zau (fun x => T_zau x.1.1 x.1.2.1) (fun r => ((r, ()), ())) := yk func119 o_zau e_zau
theorem fd_zau : FDok prog (119, D_zau) := fn_ok mixed (env_ok (yn)) tabOK ok_zau
theorem e_zar : ∀ x : D_zar.T, ((acode E_zar tt Z_zar (orcOf O_zar) C_zar (entry A_zar I_zar x)).map (keepRet tt K_zar)).ev = ((T_zar x.1.1 x.1.2.1).map fun r => some ((((r, ()), ())) : K_zar.T)).ev := fun _ => by kernel_rfl
theorem o_zar : LoopsOK E_zar tt Z_zar O_zar C_zar := yz (by kernel_rfl)
theorem ok_zar : FnOK prog E_zar tt 72 D_zar K_zar Z_zar O_zar f72 C_zar (fun x => T_zar x.1.1 x.1.2.1) (fun r => ((r, ()), ())) := yk func72 o_zar e_zar
theorem fd_zar : FDok prog (72, D_zar) := fn_ok mixed (env_ok (yc ⟨fd_zau, yn⟩)) tabOK ok_zar
theorem e_zx : ∀ x : D_zx.T, ((acode E_zx tt Z_zx (orcOf O_zx) C_zx (entry A_zx I_zx x)).map (keepRet tt K_zx)).ev = ((T_zx x.1.1 x.1.2.1.1 x.1.2.2.1.1).map fun r => some ((((r, ()), ())) : K_zx.T)).ev := fun _ => by kernel_rfl
theorem o_zx : LoopsOK E_zx tt Z_zx O_zx C_zx := yz (by kernel_rfl)
theorem ok_zx : FnOK prog E_zx tt 114 D_zx K_zx Z_zx O_zx f114 C_zx (fun x => T_zx x.1.1 x.1.2.1.1 x.1.2.2.1.1) (fun r => ((r, ()), ())) := yk func114 o_zx e_zx
theorem fd_zx : FDok prog (114, D_zx) := fn_ok mixed (env_ok (yc ⟨fd_zaa, yn⟩)) tabOK ok_zx
theorem e_zw : ∀ x : D_zw.T, ((acode E_zw tt Z_zw (orcOf O_zw) C_zw (entry A_zw I_zw x)).map (keepRet tt K_zw)).ev = ((T_zw x.1.1 x.1.2.1 x.1.2.2.1).map fun r => some ((((r, ()), ())) : K_zw.T)).ev := fun _ => by kernel_rfl
theorem o_zw : LoopsOK E_zw tt Z_zw O_zw C_zw := yz (by kernel_rfl)
theorem ok_zw : FnOK prog E_zw tt 62 D_zw K_zw Z_zw O_zw f62 C_zw (fun x => T_zw x.1.1 x.1.2.1 x.1.2.2.1) (fun r => ((r, ()), ())) := yk func62 o_zw e_zw
theorem fd_zw : FDok prog (62, D_zw) := fn_ok mixed (env_ok (yc ⟨fd_zar, yc ⟨fd_zar, yc ⟨fd_zx, yn⟩⟩⟩)) tabOK ok_zw
theorem e_zat : ∀ x : D_zat.T, ((acode E_zat tt Z_zat (orcOf O_zat) C_zat (entry A_zat I_zat x)).map (keepRet tt K_zat)).ev = ((T_zat x.1.1 x.1.2.1).map fun r => some ((((r, ()), ())) : K_zat.T)).ev := fun _ => by kernel_rfl
noncomputable def B_zat_0 : Code := ((loopsOf C_zat).find? fun p => Nat.beq p.1 0).elim .skip (·.2)
theorem l_zat_0 : (DL_zat_0).OK E_zat tt Z_zat (orcOf O_zat) B_zat_0 := yl (fun _ => rfl) fun _ _ => by kernel_rfl
theorem o_zat : LoopsOK E_zat tt Z_zat O_zat C_zat := by
 have h : loopsOf C_zat = [(0, B_zat_0)] := by kernel_rfl
 unfold LoopsOK
 rw [h]
 exact yc ⟨fun d h => (by have e : some (DL_zat_0) = some d := h; cases e; exact l_zat_0), yn⟩
theorem ok_zat : FnOK prog E_zat tt 77 D_zat K_zat Z_zat O_zat f77 C_zat (fun x => T_zat x.1.1 x.1.2.1) (fun r => ((r, ()), ())) := yk func77 o_zat e_zat
theorem fd_zat : FDok prog (77, D_zat) := fn_ok mixed (env_ok (yn)) tabOK ok_zat
theorem e_zaq : ∀ x : D_zaq.T, ((acode E_zaq tt Z_zaq (orcOf O_zaq) C_zaq (entry A_zaq I_zaq x)).map (keepRet tt K_zaq)).ev = ((T_zaq x.1.1 x.1.2.1).map fun r => some ((((r, ()), ())) : K_zaq.T)).ev := fun _ => by kernel_rfl
theorem o_zaq : LoopsOK E_zaq tt Z_zaq O_zaq C_zaq := yz (by kernel_rfl)
theorem ok_zaq : FnOK prog E_zaq tt 151 D_zaq K_zaq Z_zaq O_zaq f151 C_zaq (fun x => T_zaq x.1.1 x.1.2.1) (fun r => ((r, ()), ())) := yk func151 o_zaq e_zaq
theorem fd_zaq : FDok prog (151, D_zaq) := fn_ok mixed (env_ok (yc ⟨fd_zat, yn⟩)) tabOK ok_zaq
theorem e_zp : ∀ x : D_zp.T, ((acode E_zp tt Z_zp (orcOf O_zp) C_zp (entry A_zp I_zp x)).map (keepRet tt K_zp)).ev = ((T_zp x.1.1 x.1.2.1.1 x.1.2.1.2.1).map fun r => some ((((r, ()), ())) : K_zp.T)).ev := fun _ => by kernel_rfl
theorem o_zp : LoopsOK E_zp tt Z_zp O_zp C_zp := yz (by kernel_rfl)
theorem ok_zp : FnOK prog E_zp tt 152 D_zp K_zp Z_zp O_zp f152 C_zp (fun x => T_zp x.1.1 x.1.2.1.1 x.1.2.1.2.1) (fun r => ((r, ()), ())) := yk func152 o_zp e_zp
theorem fd_zp : FDok prog (152, D_zp) := fn_ok mixed (env_ok (yc ⟨fd_zw, yn⟩)) tabOK ok_zp
theorem e_zo : ∀ x : D_zo.T, ((acode E_zo tt Z_zo (orcOf O_zo) C_zo (entry A_zo I_zo x)).map (keepRet tt K_zo)).ev = ((T_zo x.1.1.1 x.1.1.2.1).map fun r => some ((((r, ()), ())) : K_zo.T)).ev := fun _ => by kernel_rfl
theorem o_zo : LoopsOK E_zo tt Z_zo O_zo C_zo := yz (by kernel_rfl)
theorem ok_zo : FnOK prog E_zo tt 121 D_zo K_zo Z_zo O_zo f121 C_zo (fun x => T_zo x.1.1.1 x.1.1.2.1) (fun r => ((r, ()), ())) := yk func121 o_zo e_zo
theorem fd_zo : FDok prog (121, D_zo) := fn_ok mixed (env_ok (yc ⟨fd_zaa, yc ⟨fd_zw, yc ⟨fd_zaq, yc ⟨fd_zaq, yc ⟨fd_zp, yn⟩⟩⟩⟩⟩)) tabOK ok_zo
theorem e_zae : ∀ x : D_zae.T, ((acode E_zae tt Z_zae (orcOf O_zae) C_zae (entry A_zae I_zae x)).map (keepRet tt K_zae)).ev = ((T_zae x.1.1 x.1.2.1).map fun r => some ((((r, ()), ())) : K_zae.T)).ev := fun _ => by kernel_rfl
noncomputable def B_zae_0 : Code := ((loopsOf C_zae).find? fun p => Nat.beq p.1 0).elim .skip (·.2)
theorem l_zae_0 : (DL_zae_0).OK E_zae tt Z_zae (orcOf O_zae) B_zae_0 := yl (fun _ => rfl) fun _ _ => by kernel_rfl
theorem o_zae : LoopsOK E_zae tt Z_zae O_zae C_zae := by
 have h : loopsOf C_zae = [(0, B_zae_0)] := by kernel_rfl
 unfold LoopsOK
 rw [h]
 exact yc ⟨fun d h => (by have e : some (DL_zae_0) = some d := h; cases e; exact l_zae_0), yn⟩
theorem ok_zae : FnOK prog E_zae tt 63 D_zae K_zae Z_zae O_zae f63 C_zae (fun x => T_zae x.1.1 x.1.2.1) (fun r => ((r, ()), ())) := yk func63 o_zae e_zae
theorem fd_zae : FDok prog (63, D_zae) := fn_ok mixed (env_ok (yc ⟨fd_zaa, yn⟩)) tabOK ok_zae
theorem e_zf : ∀ x : D_zf.T, ((acode E_zf tt Z_zf (orcOf O_zf) C_zf (entry A_zf I_zf x)).map (keepRet tt K_zf)).ev = ((T_zf x.1.1.1 x.1.1.2.1 x.1.2.1).map fun r => some ((((r, ()), ())) : K_zf.T)).ev := fun _ => by kernel_rfl
theorem o_zf : LoopsOK E_zf tt Z_zf O_zf C_zf := yz (by kernel_rfl)
theorem ok_zf : FnOK prog E_zf tt 122 D_zf K_zf Z_zf O_zf f122 C_zf (fun x => T_zf x.1.1.1 x.1.1.2.1 x.1.2.1) (fun r => ((r, ()), ())) := yk func122 o_zf e_zf
theorem fd_zf : FDok prog (122, D_zf) := fn_ok mixed (env_ok (yc ⟨fd_zae, yn⟩)) tabOK ok_zf
theorem e_zad : ∀ x : D_zad.T, ((acode E_zad tt Z_zad (orcOf O_zad) C_zad (entry A_zad I_zad x)).map (keepRet tt K_zad)).ev = ((T_zad x.1.1.1 x.1.1.2.1 x.1.2.1).map fun r => some ((((r, ()), ())) : K_zad.T)).ev := fun _ => by kernel_rfl
theorem o_zad : LoopsOK E_zad tt Z_zad O_zad C_zad := yz (by kernel_rfl)
theorem ok_zad : FnOK prog E_zad tt 82 D_zad K_zad Z_zad O_zad f82 C_zad (fun x => T_zad x.1.1.1 x.1.1.2.1 x.1.2.1) (fun r => ((r, ()), ())) := yk func82 o_zad e_zad
theorem fd_zad : FDok prog (82, D_zad) := fn_ok mixed (env_ok (yc ⟨fd_zo, yc ⟨fd_zf, yn⟩⟩)) tabOK ok_zad
theorem e_ze : ∀ x : D_ze.T, ((acode E_ze tt Z_ze (orcOf O_ze) C_ze (entry A_ze I_ze x)).map (keepRet tt K_ze)).ev = ((T_ze x.1.1.1 x.1.1.2.1 x.1.2.1).map fun r => some ((((r, ()), ())) : K_ze.T)).ev := fun _ => by kernel_rfl
theorem o_ze : LoopsOK E_ze tt Z_ze O_ze C_ze := yz (by kernel_rfl)
theorem ok_ze : FnOK prog E_ze tt 83 D_ze K_ze Z_ze O_ze f83 C_ze (fun x => T_ze x.1.1.1 x.1.1.2.1 x.1.2.1) (fun r => ((r, ()), ())) := yk func83 o_ze e_ze
theorem fd_ze : FDok prog (83, D_ze) := fn_ok mixed (env_ok (yc ⟨fd_zw, yn⟩)) tabOK ok_ze
theorem e_zm : ∀ x : D_zm.T, ((acode E_zm tt Z_zm (orcOf O_zm) C_zm (entry A_zm I_zm x)).map (keepRet tt K_zm)).ev = ((T_zm x.1.1.1 x.1.1.2.1 x.1.2.1 x.1.2.2.1).map fun r => some ((((r, ()), ())) : K_zm.T)).ev := fun _ => by kernel_rfl
noncomputable def B_zm_0 : Code := ((loopsOf C_zm).find? fun p => Nat.beq p.1 0).elim .skip (·.2)
theorem l_zm_0 : (DL_zm_0).OK E_zm tt Z_zm (orcOf O_zm) B_zm_0 := yl (fun _ => rfl) fun _ _ => by kernel_rfl
theorem o_zm : LoopsOK E_zm tt Z_zm O_zm C_zm := by
 have h : loopsOf C_zm = [(0, B_zm_0)] := by kernel_rfl
 unfold LoopsOK
 rw [h]
 exact yc ⟨fun d h => (by have e : some (DL_zm_0) = some d := h; cases e; exact l_zm_0), yn⟩
theorem ok_zm : FnOK prog E_zm tt 167 D_zm K_zm Z_zm O_zm f167 C_zm (fun x => T_zm x.1.1.1 x.1.1.2.1 x.1.2.1 x.1.2.2.1) (fun r => ((r, ()), ())) := yk func167 o_zm e_zm
theorem fd_zm : FDok prog (167, D_zm) := fn_ok mixed (env_ok (yn)) tabOK ok_zm
theorem e_zl : ∀ x : D_zl.T, ((acode E_zl tt Z_zl (orcOf O_zl) C_zl (entry A_zl I_zl x)).map (keepRet tt K_zl)).ev = ((T_zl x.1.1.1 x.1.1.2.1 x.1.2.1).map fun r => some (((((), ()), (r, ()))) : K_zl.T)).ev := fun _ => by kernel_rfl
noncomputable def B_zl_0 : Code := ((loopsOf C_zl).find? fun p => Nat.beq p.1 0).elim .skip (·.2)
theorem l_zl_0 : (DL_zl_0).OK E_zl tt Z_zl (orcOf O_zl) B_zl_0 := yl (fun _ => rfl) fun _ _ => by kernel_rfl
theorem o_zl : LoopsOK E_zl tt Z_zl O_zl C_zl := by
 have h : loopsOf C_zl = [(0, B_zl_0)] := by kernel_rfl
 unfold LoopsOK
 rw [h]
 exact yc ⟨fun d h => (by have e : some (DL_zl_0) = some d := h; cases e; exact l_zl_0), yn⟩
theorem ok_zl : FnOK prog E_zl tt 153 D_zl K_zl Z_zl O_zl f153 C_zl (fun x => T_zl x.1.1.1 x.1.1.2.1 x.1.2.1) (fun r => (((), ()), (r, ()))) := yk func153 o_zl e_zl
theorem fd_zl : FDok prog (153, D_zl) := fn_ok mixed (env_ok (yc ⟨fd_zm, yn⟩)) tabOK ok_zl
theorem e_zg : ∀ x : D_zg.T, ((acode E_zg tt Z_zg (orcOf O_zg) C_zg (entry A_zg I_zg x)).map (keepRet tt K_zg)).ev = ((T_zg x.1.1.1 x.1.1.2.1 x.1.2.1).map fun r => some (((((), ()), (r, ()))) : K_zg.T)).ev := fun _ => by kernel_rfl
noncomputable def B_zg_0 : Code := ((loopsOf C_zg).find? fun p => Nat.beq p.1 0).elim .skip (·.2)
theorem l_zg_0 : (DL_zg_0).OK E_zg tt Z_zg (orcOf O_zg) B_zg_0 := yl (fun _ => rfl) fun _ _ => by kernel_rfl
theorem o_zg : LoopsOK E_zg tt Z_zg O_zg C_zg := by
 have h : loopsOf C_zg = [(0, B_zg_0)] := by kernel_rfl
 unfold LoopsOK
 rw [h]
 exact yc ⟨fun d h => (by have e : some (DL_zg_0) = some d := h; cases e; exact l_zg_0), yn⟩
theorem ok_zg : FnOK prog E_zg tt 123 D_zg K_zg Z_zg O_zg f123 C_zg (fun x => T_zg x.1.1.1 x.1.1.2.1 x.1.2.1) (fun r => (((), ()), (r, ()))) := yk func123 o_zg e_zg
theorem fd_zg : FDok prog (123, D_zg) := fn_ok mixed (env_ok (yc ⟨fd_zl, yn⟩)) tabOK ok_zg
theorem e_zao : ∀ x : D_zao.T, ((acode E_zao tt Z_zao (orcOf O_zao) C_zao (entry A_zao I_zao x)).map (keepRet tt K_zao)).ev = ((T_zao x.1.1).map fun r => some ((((r, ()), ())) : K_zao.T)).ev := fun _ => by kernel_rfl
theorem o_zao : LoopsOK E_zao tt Z_zao O_zao C_zao := yz (by kernel_rfl)
theorem ok_zao : FnOK prog E_zao tt 178 D_zao K_zao Z_zao O_zao f178 C_zao (fun x => T_zao x.1.1) (fun r => ((r, ()), ())) := yk func178 o_zao e_zao
theorem fd_zao : FDok prog (178, D_zao) := fn_ok mixed (env_ok (yn)) tabOK ok_zao
theorem e_zan : ∀ x : D_zan.T, ((acode E_zan tt Z_zan (orcOf O_zan) C_zan (entry A_zan I_zan x)).map (keepRet tt K_zan)).ev = ((T_zan x.1.1).map fun r => some ((((r, ()), ())) : K_zan.T)).ev := fun _ => by kernel_rfl
theorem o_zan : LoopsOK E_zan tt Z_zan O_zan C_zan := yz (by kernel_rfl)
theorem ok_zan : FnOK prog E_zan tt 155 D_zan K_zan Z_zan O_zan f155 C_zan (fun x => T_zan x.1.1) (fun r => ((r, ()), ())) := yk func155 o_zan e_zan
theorem fd_zan : FDok prog (155, D_zan) := fn_ok mixed (env_ok (yc ⟨fd_zao, yn⟩)) tabOK ok_zan
theorem e_zd : ∀ x : D_zd.T, ((acode E_zd tt Z_zd (orcOf O_zd) C_zd (entry A_zd I_zd x)).map (keepRet tt K_zd)).ev = ((T_zd x.1.1).map fun r => some ((((r, ()), ())) : K_zd.T)).ev := fun _ => by kernel_rfl
theorem o_zd : LoopsOK E_zd tt Z_zd O_zd C_zd := yz (by kernel_rfl)
theorem ok_zd : FnOK prog E_zd tt 161 D_zd K_zd Z_zd O_zd f161 C_zd (fun x => T_zd x.1.1) (fun r => ((r, ()), ())) := yk func161 o_zd e_zd
theorem fd_zd : FDok prog (161, D_zd) := fn_ok mixed (env_ok (yn)) tabOK ok_zd
theorem e_zb : ∀ x : D_zb.T, ((acode E_zb tt Z_zb (orcOf O_zb) C_zb (entry A_zb I_zb x)).map (keepRet tt K_zb)).ev = ((T_zb x.1.1 x.1.2.1).map fun r => some ((((r, ()), ())) : K_zb.T)).ev := fun _ => by kernel_rfl
theorem o_zb : LoopsOK E_zb tt Z_zb O_zb C_zb := yz (by kernel_rfl)
theorem ok_zb : FnOK prog E_zb tt 174 D_zb K_zb Z_zb O_zb f174 C_zb (fun x => T_zb x.1.1 x.1.2.1) (fun r => ((r, ()), ())) := yk func174 o_zb e_zb
theorem fd_zb : FDok prog (174, D_zb) := fn_ok mixed (env_ok (yc ⟨fd_zd, yn⟩)) tabOK ok_zb
theorem e_zbd : ∀ x : D_zbd.T, ((acode E_zbd tt Z_zbd (orcOf O_zbd) C_zbd (entry A_zbd I_zbd x)).map (keepRet tt K_zbd)).ev = ((T_zbd x.1.2.1 x.1.2.2.1 x.2.1).map fun r => some ((((), (r, ()))) : K_zbd.T)).ev := fun _ => by kernel_rfl
noncomputable def B_zbd_2 : Code := ((loopsOf C_zbd).find? fun p => Nat.beq p.1 2).elim .skip (·.2)
theorem l_zbd_2 : (DL_zbd_2).OK E_zbd tt Z_zbd (orcOf O_zbd) B_zbd_2 := yl (fun _ => rfl) fun _ _ => by kernel_rfl
noncomputable def B_zbd_0 : Code := ((loopsOf C_zbd).find? fun p => Nat.beq p.1 0).elim .skip (·.2)
theorem l_zbd_0 : (DL_zbd_0).OK E_zbd tt Z_zbd (orcOf O_zbd) B_zbd_0 := yl (fun _ => rfl) fun _ _ => by kernel_rfl
theorem o_zbd : LoopsOK E_zbd tt Z_zbd O_zbd C_zbd := by
 have h : loopsOf C_zbd = [(0, B_zbd_0), (2, B_zbd_2)] := by kernel_rfl
 unfold LoopsOK
 rw [h]
 exact yc ⟨fun d h => (by have e : some (DL_zbd_0) = some d := h; cases e; exact l_zbd_0), yc ⟨fun d h => (by have e : some (DL_zbd_2) = some d := h; cases e; exact l_zbd_2), yn⟩⟩
theorem ok_zbd : FnOK prog E_zbd tt 168 D_zbd K_zbd Z_zbd O_zbd f168 C_zbd (fun x => T_zbd x.1.2.1 x.1.2.2.1 x.2.1) (fun r => ((), (r, ()))) := yk func168 o_zbd e_zbd
theorem fd_zbd : FDok prog (168, D_zbd) := fn_ok mixed (env_ok (yc ⟨fd_zb, yn⟩)) tabOK ok_zbd
theorem e_zbi : ∀ x : D_zbi.T, ((acode E_zbi tt Z_zbi (orcOf O_zbi) C_zbi (entry A_zbi I_zbi x)).map (keepRet tt K_zbi)).ev = ((T_zbi x.1.1).map fun r => some ((((r, ()), ())) : K_zbi.T)).ev := fun _ => by kernel_rfl
theorem o_zbi : LoopsOK E_zbi tt Z_zbi O_zbi C_zbi := yz (by kernel_rfl)
theorem ok_zbi : FnOK prog E_zbi tt 190 D_zbi K_zbi Z_zbi O_zbi f190 C_zbi (fun x => T_zbi x.1.1) (fun r => ((r, ()), ())) := yk func190 o_zbi e_zbi
theorem fd_zbi : FDok prog (190, D_zbi) := fn_ok mixed (env_ok (yc ⟨fd_zan, yn⟩)) tabOK ok_zbi
theorem e_zbp : ∀ x : D_zbp.T, ((acode E_zbp tt Z_zbp (orcOf O_zbp) C_zbp (entry A_zbp I_zbp x)).map (keepRet tt K_zbp)).ev = ((T_zbp x.2.1.1).map fun r => some ((((r.1, ()), ((r.2, ()), ()))) : K_zbp.T)).ev := fun _ => by kernel_rfl
theorem o_zbp : LoopsOK E_zbp tt Z_zbp O_zbp C_zbp := yz (by kernel_rfl)
theorem ok_zbp : FnOK prog E_zbp tt 191 D_zbp K_zbp Z_zbp O_zbp f191 C_zbp (fun x => T_zbp x.2.1.1) (fun r => ((r.1, ()), ((r.2, ()), ()))) := yk func191 o_zbp e_zbp
theorem fd_zbp : FDok prog (191, D_zbp) := fn_ok mixed (env_ok (yn)) tabOK ok_zbp
theorem e_zaz : ∀ x : D_zaz.T, ((acode E_zaz tt Z_zaz (orcOf O_zaz) C_zaz (entry A_zaz I_zaz x)).map (keepRet tt K_zaz)).ev = ((T_zaz x.1.2.1 x.1.2.2.1 x.2.1).map fun r => some ((((), (r, ()))) : K_zaz.T)).ev := fun _ => by kernel_rfl
noncomputable def B_zaz_0 : Code := ((loopsOf C_zaz).find? fun p => Nat.beq p.1 0).elim .skip (·.2)
theorem l_zaz_0 : (DL_zaz_0).OK E_zaz tt Z_zaz (orcOf O_zaz) B_zaz_0 := yl (fun _ => rfl) fun _ _ => by kernel_rfl
theorem o_zaz : LoopsOK E_zaz tt Z_zaz O_zaz C_zaz := by
 have h : loopsOf C_zaz = [(0, B_zaz_0)] := by kernel_rfl
 unfold LoopsOK
 rw [h]
 exact yc ⟨fun d h => (by have e : some (DL_zaz_0) = some d := h; cases e; exact l_zaz_0), yn⟩
theorem ok_zaz : FnOK prog E_zaz tt 170 D_zaz K_zaz Z_zaz O_zaz f170 C_zaz (fun x => T_zaz x.1.2.1 x.1.2.2.1 x.2.1) (fun r => ((), (r, ()))) := yk func170 o_zaz e_zaz
theorem fd_zaz : FDok prog (170, D_zaz) := fn_ok mixed (env_ok (yc ⟨fd_zbi, yc ⟨fd_zbp, yn⟩⟩)) tabOK ok_zaz
theorem e_zbk : ∀ x : D_zbk.T, ((acode E_zbk tt Z_zbk (orcOf O_zbk) C_zbk (entry A_zbk I_zbk x)).map (keepRet tt K_zbk)).ev = ((T_zbk x.1.1 x.1.2.1 x.1.2.2.1 x.2.1.1).map fun r => some ((((r.1, (r.2.1, ())), ((r.2.2, ()), ()))) : K_zbk.T)).ev := fun _ => by kernel_rfl
theorem o_zbk : LoopsOK E_zbk tt Z_zbk O_zbk C_zbk := yz (by kernel_rfl)
theorem ok_zbk : FnOK prog E_zbk tt 198 D_zbk K_zbk Z_zbk O_zbk f198 C_zbk (fun x => T_zbk x.1.1 x.1.2.1 x.1.2.2.1 x.2.1.1) (fun r => ((r.1, (r.2.1, ())), ((r.2.2, ()), ()))) := yk func198 o_zbk e_zbk
theorem fd_zbk : FDok prog (198, D_zbk) := fn_ok mixed (env_ok (yc ⟨fd_zb, yn⟩)) tabOK ok_zbk
theorem e_zbh : ∀ x : D_zbh.T, ((acode E_zbh tt Z_zbh (orcOf O_zbh) C_zbh (entry A_zbh I_zbh x)).map (keepRet tt K_zbh)).ev = ((T_zbh x.1.1 x.1.2.1 x.1.2.2.1 x.1.2.2.2.1 x.2.1.1).map fun r => some ((((r.1, ()), ((r.2, ()), ()))) : K_zbh.T)).ev := fun _ => by kernel_rfl
theorem o_zbh : LoopsOK E_zbh tt Z_zbh O_zbh C_zbh := yz (by kernel_rfl)
theorem ok_zbh : FnOK prog E_zbh tt 193 D_zbh K_zbh Z_zbh O_zbh f193 C_zbh (fun x => T_zbh x.1.1 x.1.2.1 x.1.2.2.1 x.1.2.2.2.1 x.2.1.1) (fun r => ((r.1, ()), ((r.2, ()), ()))) := yk func193 o_zbh e_zbh
theorem fd_zbh : FDok prog (193, D_zbh) := fn_ok mixed (env_ok (yc ⟨fd_zbk, yn⟩)) tabOK ok_zbh
theorem e_zbf : ∀ x : D_zbf.T, ((acode E_zbf tt Z_zbf (orcOf O_zbf) C_zbf (entry A_zbf I_zbf x)).map (keepRet tt K_zbf)).ev = ((T_zbf x.1.1 x.1.2.1 x.2.1.1).map fun r => some ((((r.1, ()), ((r.2, ()), ()))) : K_zbf.T)).ev := fun _ => by kernel_rfl
theorem o_zbf : LoopsOK E_zbf tt Z_zbf O_zbf C_zbf := yz (by kernel_rfl)
theorem ok_zbf : FnOK prog E_zbf tt 192 D_zbf K_zbf Z_zbf O_zbf f192 C_zbf (fun x => T_zbf x.1.1 x.1.2.1 x.2.1.1) (fun r => ((r.1, ()), ((r.2, ()), ()))) := yk func192 o_zbf e_zbf
theorem fd_zbf : FDok prog (192, D_zbf) := fn_ok mixed (env_ok (yc ⟨fd_zbh, yn⟩)) tabOK ok_zbf
theorem e_zbb : ∀ x : D_zbb.T, ((acode E_zbb tt Z_zbb (orcOf O_zbb) C_zbb (entry A_zbb I_zbb x)).map (keepRet tt K_zbb)).ev = ((T_zbb x.1.1 x.1.2.1 x.1.2.2.1).map fun r => some ((((r.1, (r.2, ())), ())) : K_zbb.T)).ev := fun _ => by kernel_rfl
theorem o_zbb : LoopsOK E_zbb tt Z_zbb O_zbb C_zbb := yz (by kernel_rfl)
theorem ok_zbb : FnOK prog E_zbb tt 171 D_zbb K_zbb Z_zbb O_zbb f171 C_zbb (fun x => T_zbb x.1.1 x.1.2.1 x.1.2.2.1) (fun r => ((r.1, (r.2, ())), ())) := yk func171 o_zbb e_zbb
theorem fd_zbb : FDok prog (171, D_zbb) := fn_ok mixed (env_ok (yc ⟨fd_zbf, yc ⟨fd_zbh, yn⟩⟩)) tabOK ok_zbb
theorem e_zbm : ∀ x : D_zbm.T, ((acode E_zbm tt Z_zbm (orcOf O_zbm) C_zbm (entry A_zbm I_zbm x)).map (keepRet tt K_zbm)).ev = ((T_zbm x.1.2.1 x.1.2.2.1 x.1.2.2.2.1 x.2.1).map fun r => some ((((r.1, (r.2.1, ())), (r.2.2, ()))) : K_zbm.T)).ev := fun _ => by kernel_rfl
noncomputable def B_zbm_0 : Code := ((loopsOf C_zbm).find? fun p => Nat.beq p.1 0).elim .skip (·.2)
theorem l_zbm_0 : (DL_zbm_0).OK E_zbm tt Z_zbm (orcOf O_zbm) B_zbm_0 := yl (fun _ => rfl) fun _ _ => by kernel_rfl
noncomputable def B_zbm_2 : Code := ((loopsOf C_zbm).find? fun p => Nat.beq p.1 2).elim .skip (·.2)
theorem l_zbm_2 : (DL_zbm_2).OK E_zbm tt Z_zbm (orcOf O_zbm) B_zbm_2 := yl (fun _ => rfl) fun _ _ => by kernel_rfl
noncomputable def B_zbm_6 : Code := ((loopsOf C_zbm).find? fun p => Nat.beq p.1 6).elim .skip (·.2)
theorem l_zbm_6 : (DL_zbm_6).OK E_zbm tt Z_zbm (orcOf O_zbm) B_zbm_6 := yl (fun _ => rfl) fun _ _ => by kernel_rfl
noncomputable def B_zbm_8 : Code := ((loopsOf C_zbm).find? fun p => Nat.beq p.1 8).elim .skip (·.2)
theorem l_zbm_8 : (DL_zbm_8).OK E_zbm tt Z_zbm (orcOf O_zbm) B_zbm_8 := yl (fun _ => rfl) fun _ _ => by kernel_rfl
noncomputable def B_zbm_4 : Code := ((loopsOf C_zbm).find? fun p => Nat.beq p.1 4).elim .skip (·.2)
theorem l_zbm_4 : (DL_zbm_4).OK E_zbm tt Z_zbm (orcOf O_zbm) B_zbm_4 := yl (fun _ => rfl) fun _ _ => by kernel_rfl
theorem o_zbm : LoopsOK E_zbm tt Z_zbm O_zbm C_zbm := by
 have h : loopsOf C_zbm = [(0, B_zbm_0), (2, B_zbm_2), (4, B_zbm_4), (6, B_zbm_6), (8, B_zbm_8)] := by kernel_rfl
 unfold LoopsOK
 rw [h]
 exact yc ⟨fun d h => (by have e : some (DL_zbm_0) = some d := h; cases e; exact l_zbm_0), yc ⟨fun d h => (by have e : some (DL_zbm_2) = some d := h; cases e; exact l_zbm_2), yc ⟨fun d h => (by have e : some (DL_zbm_4) = some d := h; cases e; exact l_zbm_4), yc ⟨fun d h => (by have e : some (DL_zbm_6) = some d := h; cases e; exact l_zbm_6), yc ⟨fun d h => (by have e : some (DL_zbm_8) = some d := h; cases e; exact l_zbm_8), yn⟩⟩⟩⟩⟩
theorem ok_zbm : FnOK prog E_zbm tt 176 D_zbm K_zbm Z_zbm O_zbm f176 C_zbm (fun x => T_zbm x.1.2.1 x.1.2.2.1 x.1.2.2.2.1 x.2.1) (fun r => ((r.1, (r.2.1, ())), (r.2.2, ()))) := yk func176 o_zbm e_zbm
theorem fd_zbm : FDok prog (176, D_zbm) := fn_ok mixed (env_ok (yc ⟨fd_zb, yn⟩)) tabOK ok_zbm
theorem e_zbo (rec_ : (Int) → (Int) → (Int) → Y1 → Option Y1) : ∀ x : (Dr_zbo rec_).T, ((acode (E_zbo rec_) tt Z_zbo (orcOf (O_zbo rec_)) C_zbo (entry A_zbo I_zbo x)).map (keepRet tt K_zbo)).ev = ((T_zbo rec_ x.1.2.1 x.1.2.2.1 x.1.2.2.2.1 x.2.1).map fun r => some ((((), (r, ()))) : K_zbo.T)).ev := fun _ => by kernel_rfl
noncomputable def B_zbo_0 : Code := ((loopsOf C_zbo).find? fun p => Nat.beq p.1 0).elim .skip (·.2)
theorem l_zbo_0 (rec_ : (Int) → (Int) → (Int) → Y1 → Option Y1) : (DL_zbo_0 rec_).OK (E_zbo rec_) tt Z_zbo (orcOf (O_zbo rec_)) B_zbo_0 := yl (fun _ => rfl) fun _ _ => by kernel_rfl
theorem o_zbo (rec_ : (Int) → (Int) → (Int) → Y1 → Option Y1) : LoopsOK (E_zbo rec_) tt Z_zbo (O_zbo rec_) C_zbo := by
 have h : loopsOf C_zbo = [(0, B_zbo_0)] := by kernel_rfl
 unfold LoopsOK
 rw [h]
 exact yc ⟨fun d h => (by have e : some (DL_zbo_0 rec_) = some d := h; cases e; exact l_zbo_0 rec_), yn⟩
theorem ok_zbo (n : Nat) : FnOK prog (E_zbo (F_zbo n)) tt 154 (D_zbo (n + 1)) K_zbo Z_zbo (O_zbo (F_zbo n)) f154 C_zbo (fun x => T_zbo (F_zbo n) x.1.2.1 x.1.2.2.1 x.1.2.2.2.1 x.2.1) (fun r => ((), (r, ()))) where
 at_ := func154
 name := by kernel_rfl
 body := by kernel_rfl
 res := by kernel_rfl
 ok := by kernel_rfl
 arity := fun _ => Nat.le_of_ble_eq_true (by kernel_rfl)
 pin := fun _ => by kernel_rfl
 chk := by kernel_rfl
 loops := o_zbo (F_zbo n)
 run := e_zbo (F_zbo n)
 F := fun _ => rfl
 emb := fun _ => rfl
theorem fd_zbo : ∀ n : Nat, FDok prog (154, D_zbo n)
 | 0 => fun _ _ h => nomatch h
 | n + 1 => fn_ok mixed (env_ok (yc ⟨fd_zbd, yc ⟨fd_zaz, yc ⟨fd_zbb, yc ⟨fd_zb, yc ⟨fd_zbm, yc ⟨fd_zbo n, yn⟩⟩⟩⟩⟩⟩)) tabOK (ok_zbo n)
theorem e_zax : ∀ x : D_zax.T, ((acode E_zax tt Z_zax (orcOf O_zax) C_zax (entry A_zax I_zax x)).map (keepRet tt K_zax)).ev = ((T_zax x.2.1).map fun r => some ((((), (r, ()))) : K_zax.T)).ev := fun _ => by kernel_rfl
theorem o_zax : LoopsOK E_zax tt Z_zax O_zax C_zax := yz (by kernel_rfl)
theorem ok_zax : FnOK prog E_zax tt 124 D_zax K_zax Z_zax O_zax f124 C_zax (fun x => T_zax x.2.1) (fun r => ((), (r, ()))) := yk func124 o_zax e_zax
theorem fd_zax : FDok prog (124, D_zax) := fn_ok mixed (env_ok (yc ⟨fd_zan, yc ⟨fd_zbo 1000000, yn⟩⟩)) tabOK ok_zax
theorem e_zj : ∀ x : D_zj.T, ((acode E_zj tt Z_zj (orcOf O_zj) C_zj (entry A_zj I_zj x)).map (keepRet tt K_zj)).ev = ((T_zj x.1.1.1 x.1.1.2.1 x.1.2.1 x.1.2.2.1).map fun r => some ((((r, ()), ())) : K_zj.T)).ev := fun _ => by kernel_rfl
noncomputable def B_zj_0 : Code := ((loopsOf C_zj).find? fun p => Nat.beq p.1 0).elim .skip (·.2)
theorem l_zj_0 : (DL_zj_0).OK E_zj tt Z_zj (orcOf O_zj) B_zj_0 := yl (fun _ => rfl) fun _ _ => by kernel_rfl
theorem o_zj : LoopsOK E_zj tt Z_zj O_zj C_zj := by
 have h : loopsOf C_zj = [(0, B_zj_0)] := by kernel_rfl
 unfold LoopsOK
 rw [h]
 exact yc ⟨fun d h => (by have e : some (DL_zj_0) = some d := h; cases e; exact l_zj_0), yn⟩
theorem ok_zj : FnOK prog E_zj tt 84 D_zj K_zj Z_zj O_zj f84 C_zj (fun x => T_zj x.1.1.1 x.1.1.2.1 x.1.2.1 x.1.2.2.1) (fun r => ((r, ()), ())) := yk func84 o_zj e_zj
theorem fd_zj : FDok prog (84, D_zj) := fn_ok mixed (env_ok (yc ⟨fd_zg, yc ⟨fd_zax, yn⟩⟩)) tabOK ok_zj
theorem e_zt : ∀ x : D_zt.T, ((acode E_zt tt Z_zt (orcOf O_zt) C_zt (entry A_zt I_zt x)).map (keepRet tt K_zt)).ev = ((T_zt x.1.1.1 x.1.1.2.1 x.1.2.1 x.1.2.2.1).map fun r => some ((((r.1, (r.2, ())), ())) : K_zt.T)).ev := fun _ => by kernel_rfl
theorem o_zt : LoopsOK E_zt tt Z_zt O_zt C_zt := yz (by kernel_rfl)
theorem ok_zt : FnOK prog E_zt tt 27 D_zt K_zt Z_zt O_zt f27 C_zt (fun x => T_zt x.1.1.1 x.1.1.2.1 x.1.2.1 x.1.2.2.1) (fun r => ((r.1, (r.2, ())), ())) := yk func27 o_zt e_zt
theorem fd_zt : FDok prog (27, D_zt) := fn_ok mixed (env_ok (yc ⟨fd_zad, yc ⟨fd_ze, yc ⟨fd_zj, yn⟩⟩⟩)) tabOK ok_zt
theorem e_zch : ∀ x : D_zch.T, ((acode E_zch tt Z_zch (orcOf O_zch) C_zch (entry A_zch I_zch x)).map (keepRet tt K_zch)).ev = ((T_zch x.1.1 x.1.2.1 x.1.2.2.1).map fun r => some ((((r, ()), ())) : K_zch.T)).ev := fun _ => by kernel_rfl
theorem o_zch : LoopsOK E_zch tt Z_zch O_zch C_zch := yz (by kernel_rfl)
theorem ok_zch : FnOK prog E_zch tt 76 D_zch K_zch Z_zch O_zch f76 C_zch (fun x => T_zch x.1.1 x.1.2.1 x.1.2.2.1) (fun r => ((r, ()), ())) := yk func76 o_zch e_zch
theorem fd_zch : FDok prog (76, D_zch) := fn_ok mixed (env_ok (yn)) tabOK ok_zch
theorem e_zct : ∀ x : D_zct.T, ((acode E_zct tt Z_zct (orcOf O_zct) C_zct (entry A_zct I_zct x)).map (keepRet tt K_zct)).ev = ((T_zct x.1.1 x.1.2.1 x.1.2.2.1).map fun r => some ((((r, ()), ())) : K_zct.T)).ev := fun _ => by kernel_rfl
noncomputable def B_zct_0 : Code := ((loopsOf C_zct).find? fun p => Nat.beq p.1 0).elim .skip (·.2)
theorem l_zct_0 : (DL_zct_0).OK E_zct tt Z_zct (orcOf O_zct) B_zct_0 := yl (fun _ => rfl) fun _ _ => by kernel_rfl
theorem o_zct : LoopsOK E_zct tt Z_zct O_zct C_zct := by
 have h : loopsOf C_zct = [(0, B_zct_0)] := by kernel_rfl
 unfold LoopsOK
 rw [h]
 exact yc ⟨fun d h => (by have e : some (DL_zct_0) = some d := h; cases e; exact l_zct_0), yn⟩
theorem ok_zct : FnOK prog E_zct tt 86 D_zct K_zct Z_zct O_zct f86 C_zct (fun x => T_zct x.1.1 x.1.2.1 x.1.2.2.1) (fun r => ((r, ()), ())) := yk func86 o_zct e_zct
theorem fd_zct : FDok prog (86, D_zct) := fn_ok mixed (env_ok (yc ⟨fd_zch, yn⟩)) tabOK ok_zct
theorem e_zcp : ∀ x : D_zcp.T, ((acode E_zcp tt Z_zcp (orcOf O_zcp) C_zcp (entry A_zcp I_zcp x)).map (keepRet tt K_zcp)).ev = ((T_zcp x.1.1.1 x.1.1.2.1).map fun r => some ((((r, ()), ())) : K_zcp.T)).ev := fun _ => by kernel_rfl
noncomputable def B_zcp_0 : Code := ((loopsOf C_zcp).find? fun p => Nat.beq p.1 0).elim .skip (·.2)
theorem l_zcp_0 : (DL_zcp_0).OK E_zcp tt Z_zcp (orcOf O_zcp) B_zcp_0 := yl (fun _ => rfl) fun _ _ => by kernel_rfl
theorem o_zcp : LoopsOK E_zcp tt Z_zcp O_zcp C_zcp := by
 have h : loopsOf C_zcp = [(0, B_zcp_0)] := by kernel_rfl
 unfold LoopsOK
 rw [h]
 exact yc ⟨fun d h => (by have e : some (DL_zcp_0) = some d := h; cases e; exact l_zcp_0), yn⟩
theorem ok_zcp : FnOK prog E_zcp tt 125 D_zcp K_zcp Z_zcp O_zcp f125 C_zcp (fun x => T_zcp x.1.1.1 x.1.1.2.1) (fun r => ((r, ()), ())) := yk func125 o_zcp e_zcp
theorem fd_zcp : FDok prog (125, D_zcp) := fn_ok mixed (env_ok (yc ⟨fd_zct, yc ⟨fd_zch, yn⟩⟩)) tabOK ok_zcp
theorem e_zcl : ∀ x : D_zcl.T, ((acode E_zcl tt Z_zcl (orcOf O_zcl) C_zcl (entry A_zcl I_zcl x)).map (keepRet tt K_zcl)).ev = ((T_zcl x.1.1 x.1.2.1 x.1.2.2.1).map fun r => some ((((r, ()), ())) : K_zcl.T)).ev := fun _ => by kernel_rfl
noncomputable def B_zcl_0 : Code := ((loopsOf C_zcl).find? fun p => Nat.beq p.1 0).elim .skip (·.2)
theorem l_zcl_0 : (DL_zcl_0).OK E_zcl tt Z_zcl (orcOf O_zcl) B_zcl_0 := yl (fun _ => rfl) fun _ _ => by kernel_rfl
theorem o_zcl : LoopsOK E_zcl tt Z_zcl O_zcl C_zcl := by
 have h : loopsOf C_zcl = [(0, B_zcl_0)] := by kernel_rfl
 unfold LoopsOK
 rw [h]
 exact yc ⟨fun d h => (by have e : some (DL_zcl_0) = some d := h; cases e; exact l_zcl_0), yn⟩
theorem ok_zcl : FnOK prog E_zcl tt 68 D_zcl K_zcl Z_zcl O_zcl f68 C_zcl (fun x => T_zcl x.1.1 x.1.2.1 x.1.2.2.1) (fun r => ((r, ()), ())) := yk func68 o_zcl e_zcl
theorem fd_zcl : FDok prog (68, D_zcl) := fn_ok mixed (env_ok (yc ⟨fd_zch, yn⟩)) tabOK ok_zcl
theorem e_zcu : ∀ x : D_zcu.T, ((acode E_zcu tt Z_zcu (orcOf O_zcu) C_zcu (entry A_zcu I_zcu x)).map (keepRet tt K_zcu)).ev = ((T_zcu x.1.1.1 x.1.1.2.1 x.1.2.1).map fun r => some ((((r, ()), ())) : K_zcu.T)).ev := fun _ => by kernel_rfl
theorem o_zcu : LoopsOK E_zcu tt Z_zcu O_zcu C_zcu := yz (by kernel_rfl)
theorem ok_zcu : FnOK prog E_zcu tt 126 D_zcu K_zcu Z_zcu O_zcu f126 C_zcu (fun x => T_zcu x.1.1.1 x.1.1.2.1 x.1.2.1) (fun r => ((r, ()), ())) := yk func126 o_zcu e_zcu
theorem fd_zcu : FDok prog (126, D_zcu) := fn_ok mixed (env_ok (yc ⟨fd_zcl, yn⟩)) tabOK ok_zcu
theorem e_zcx : ∀ x : D_zcx.T, ((acode E_zcx tt Z_zcx (orcOf O_zcx) C_zcx (entry A_zcx I_zcx x)).map (keepRet tt K_zcx)).ev = ((T_zcx x.1.1.1 x.1.1.2.1 x.1.2.1).map fun r => some ((((r, ()), ())) : K_zcx.T)).ev := fun _ => by kernel_rfl
theorem o_zcx : LoopsOK E_zcx tt Z_zcx O_zcx C_zcx := yz (by kernel_rfl)
theorem ok_zcx : FnOK prog E_zcx tt 85 D_zcx K_zcx Z_zcx O_zcx f85 C_zcx (fun x => T_zcx x.1.1.1 x.1.1.2.1 x.1.2.1) (fun r => ((r, ()), ())) := yk func85 o_zcx e_zcx
theorem fd_zcx : FDok prog (85, D_zcx) := fn_ok mixed (env_ok (yc ⟨fd_zcp, yc ⟨fd_zcu, yn⟩⟩)) tabOK ok_zcx
theorem e_zcw : ∀ x : D_zcw.T, ((acode E_zcw tt Z_zcw (orcOf O_zcw) C_zcw (entry A_zcw I_zcw x)).map (keepRet tt K_zcw)).ev = ((T_zcw x.1.1.1 x.1.1.2.1 x.1.2.1 x.1.2.2.1).map fun r => some ((((r, ()), ())) : K_zcw.T)).ev := fun _ => by kernel_rfl
noncomputable def B_zcw_0 : Code := ((loopsOf C_zcw).find? fun p => Nat.beq p.1 0).elim .skip (·.2)
theorem l_zcw_0 : (DL_zcw_0).OK E_zcw tt Z_zcw (orcOf O_zcw) B_zcw_0 := yl (fun _ => rfl) fun _ _ => by kernel_rfl
theorem o_zcw : LoopsOK E_zcw tt Z_zcw O_zcw C_zcw := by
 have h : loopsOf C_zcw = [(0, B_zcw_0)] := by kernel_rfl
 unfold LoopsOK
 rw [h]
 exact yc ⟨fun d h => (by have e : some (DL_zcw_0) = some d := h; cases e; exact l_zcw_0), yn⟩
theorem ok_zcw : FnOK prog E_zcw tt 156 D_zcw K_zcw Z_zcw O_zcw f156 C_zcw (fun x => T_zcw x.1.1.1 x.1.1.2.1 x.1.2.1 x.1.2.2.1) (fun r => ((r, ()), ())) := yk func156 o_zcw e_zcw
theorem fd_zcw : FDok prog (156, D_zcw) := fn_ok mixed (env_ok (yn)) tabOK ok_zcw
theorem e_zcr : ∀ x : D_zcr.T, ((acode E_zcr tt Z_zcr (orcOf O_zcr) C_zcr (entry A_zcr I_zcr x)).map (keepRet tt K_zcr)).ev = ((T_zcr x.1.1.1 x.1.1.2.1 x.1.2.1 x.1.2.2.1).map fun r => some ((((r, ()), ())) : K_zcr.T)).ev := fun _ => by kernel_rfl
theorem o_zcr : LoopsOK E_zcr tt Z_zcr O_zcr C_zcr := yz (by kernel_rfl)
theorem ok_zcr : FnOK prog E_zcr tt 127 D_zcr K_zcr Z_zcr O_zcr f127 C_zcr (fun x => T_zcr x.1.1.1 x.1.1.2.1 x.1.2.1 x.1.2.2.1) (fun r => ((r, ()), ())) := yk func127 o_zcr e_zcr
theorem fd_zcr : FDok prog (127, D_zcr) := fn_ok mixed (env_ok (yc ⟨fd_zcw, yn⟩)) tabOK ok_zcr
theorem e_zbu : ∀ x : D_zbu.T, ((acode E_zbu tt Z_zbu (orcOf O_zbu) C_zbu (entry A_zbu I_zbu x)).map (keepRet tt K_zbu)).ev = ((T_zbu x.1.1.1 x.1.1.2.1 x.1.2.1 x.1.2.2.1).map fun r => some ((((r, ()), ())) : K_zbu.T)).ev := fun _ => by kernel_rfl
noncomputable def B_zbu_2 : Code := ((loopsOf C_zbu).find? fun p => Nat.beq p.1 2).elim .skip (·.2)
theorem l_zbu_2 : (DL_zbu_2).OK E_zbu tt Z_zbu (orcOf O_zbu) B_zbu_2 := yl (fun _ => rfl) fun _ _ => by kernel_rfl
noncomputable def B_zbu_0 : Code := ((loopsOf C_zbu).find? fun p => Nat.beq p.1 0).elim .skip (·.2)
theorem l_zbu_0 : (DL_zbu_0).OK E_zbu tt Z_zbu (orcOf O_zbu) B_zbu_0 := yl (fun _ => rfl) fun _ _ => by kernel_rfl
noncomputable def B_zbu_4 : Code := ((loopsOf C_zbu).find? fun p => Nat.beq p.1 4).elim .skip (·.2)
theorem l_zbu_4 : (DL_zbu_4).OK E_zbu tt Z_zbu (orcOf O_zbu) B_zbu_4 := yl (fun _ => rfl) fun _ _ => by kernel_rfl
theorem o_zbu : LoopsOK E_zbu tt Z_zbu O_zbu C_zbu := by
 have h : loopsOf C_zbu = [(0, B_zbu_0), (2, B_zbu_2), (4, B_zbu_4)] := by kernel_rfl
 unfold LoopsOK
 rw [h]
 exact yc ⟨fun d h => (by have e : some (DL_zbu_0) = some d := h; cases e; exact l_zbu_0), yc ⟨fun d h => (by have e : some (DL_zbu_2) = some d := h; cases e; exact l_zbu_2), yc ⟨fun d h => (by have e : some (DL_zbu_4) = some d := h; cases e; exact l_zbu_4), yn⟩⟩⟩
theorem ok_zbu : FnOK prog E_zbu tt 87 D_zbu K_zbu Z_zbu O_zbu f87 C_zbu (fun x => T_zbu x.1.1.1 x.1.1.2.1 x.1.2.1 x.1.2.2.1) (fun r => ((r, ()), ())) := yk func87 o_zbu e_zbu
theorem fd_zbu : FDok prog (87, D_zbu) := fn_ok mixed (env_ok (yc ⟨fd_zcr, yn⟩)) tabOK ok_zbu
theorem e_zbt : ∀ x : D_zbt.T, ((acode E_zbt tt Z_zbt (orcOf O_zbt) C_zbt (entry A_zbt I_zbt x)).map (keepRet tt K_zbt)).ev = ((T_zbt x.1.1.1 x.1.1.2.1 x.1.2.1 x.1.2.2.1).map fun r => some ((((r.1, (r.2, ())), ())) : K_zbt.T)).ev := fun _ => by kernel_rfl
theorem o_zbt : LoopsOK E_zbt tt Z_zbt O_zbt C_zbt := yz (by kernel_rfl)
theorem ok_zbt : FnOK prog E_zbt tt 28 D_zbt K_zbt Z_zbt O_zbt f28 C_zbt (fun x => T_zbt x.1.1.1 x.1.1.2.1 x.1.2.1 x.1.2.2.1) (fun r => ((r.1, (r.2, ())), ())) := yk func28 o_zbt e_zbt
theorem fd_zbt : FDok prog (28, D_zbt) := fn_ok mixed (env_ok (yc ⟨fd_zcx, yc ⟨fd_zct, yc ⟨fd_zbu, yn⟩⟩⟩)) tabOK ok_zbt
theorem e_zbw : ∀ x : D_zbw.T, ((acode E_zbw tt Z_zbw (orcOf O_zbw) C_zbw (entry A_zbw I_zbw x)).map (keepRet tt K_zbw)).ev = ((T_zbw x.1.2.1.1 x.1.2.1.2.1 x.2.1.1 x.2.1.2.1 x.2.1.2.2.1).map fun r => some ((((r.1, ()), ((r.2.1, (r.2.2.1, (r.2.2.2, ()))), ()))) : K_zbw.T)).ev := fun _ => by kernel_rfl
theorem o_zbw : LoopsOK E_zbw tt Z_zbw O_zbw C_zbw := yz (by kernel_rfl)
theorem ok_zbw : FnOK prog E_zbw tt 88 D_zbw K_zbw Z_zbw O_zbw f88 C_zbw (fun x => T_zbw x.1.2.1.1 x.1.2.1.2.1 x.2.1.1 x.2.1.2.1 x.2.1.2.2.1) (fun r => ((r.1, ()), ((r.2.1, (r.2.2.1, (r.2.2.2, ()))), ()))) := yk func88 o_zbw e_zbw
theorem fd_zbw : FDok prog (88, D_zbw) := fn_ok mixed (env_ok (yc ⟨fd_zbv, yc ⟨fd_zcb, yc ⟨fd_zcc, yn⟩⟩⟩)) tabOK ok_zbw
theorem e_zbq : ∀ x : D_zbq.T, ((acode E_zbq tt Z_zbq (orcOf O_zbq) C_zbq (entry A_zbq I_zbq x)).map (keepRet tt K_zbq)).ev = ((T_zbq x.1.1).map fun r => some (((((r.1, (r.2.1, ())), (r.2.2.1, ((), ()))), (r.2.2.2, ()))) : K_zbq.T)).ev := fun _ => by kernel_rfl
theorem o_zbq : LoopsOK E_zbq tt Z_zbq O_zbq C_zbq := yz (by kernel_rfl)
theorem ok_zbq : FnOK prog E_zbq tt 29 D_zbq K_zbq Z_zbq O_zbq f29 C_zbq (fun x => T_zbq x.1.1) (fun r => (((r.1, (r.2.1, ())), (r.2.2.1, ((), ()))), (r.2.2.2, ()))) := yk func29 o_zbq e_zbq
theorem fd_zbq : FDok prog (29, D_zbq) := fn_ok mixed (env_ok (yc ⟨fd_zbx, yc ⟨fd_zbw, yc ⟨fd_zcg, yn⟩⟩⟩)) tabOK ok_zbq
theorem e_zac : ∀ x : D_zac.T, ((acode E_zac tt Z_zac (orcOf O_zac) C_zac (entry A_zac I_zac x)).map (keepRet tt K_zac)).ev = ((T_zac x.1.1.1 x.1.1.2.1 x.1.2.1).map fun r => some ((((r, ()), ())) : K_zac.T)).ev := fun _ => by kernel_rfl
theorem o_zac : LoopsOK E_zac tt Z_zac O_zac C_zac := yz (by kernel_rfl)
theorem ok_zac : FnOK prog E_zac tt 89 D_zac K_zac Z_zac O_zac f89 C_zac (fun x => T_zac x.1.1.1 x.1.1.2.1 x.1.2.1) (fun r => ((r, ()), ())) := yk func89 o_zac e_zac
theorem fd_zac : FDok prog (89, D_zac) := fn_ok mixed (env_ok (yc ⟨fd_zo, yc ⟨fd_zaa, yn⟩⟩)) tabOK ok_zac
theorem e_zy : ∀ x : D_zy.T, ((acode E_zy tt Z_zy (orcOf O_zy) C_zy (entry A_zy I_zy x)).map (keepRet tt K_zy)).ev = ((T_zy x.1.1 x.1.2.1).map fun r => some ((((r, ()), ())) : K_zy.T)).ev := fun _ => by kernel_rfl
theorem o_zy : LoopsOK E_zy tt Z_zy O_zy C_zy := yz (by kernel_rfl)
theorem ok_zy : FnOK prog E_zy tt 163 D_zy K_zy Z_zy O_zy f163 C_zy (fun x => T_zy x.1.1 x.1.2.1) (fun r => ((r, ()), ())) := yk func163 o_zy e_zy
theorem fd_zy : FDok prog (163, D_zy) := fn_ok mixed (env_ok (yn)) tabOK ok_zy
theorem e_zz : ∀ x : D_zz.T, ((acode E_zz tt Z_zz (orcOf O_zz) C_zz (entry A_zz I_zz x)).map (keepRet tt K_zz)).ev = ((T_zz x.1.1).map fun r => some (((((), ()), (r, ()))) : K_zz.T)).ev := fun _ => by kernel_rfl
noncomputable def B_zz_0 : Code := ((loopsOf C_zz).find? fun p => Nat.beq p.1 0).elim .skip (·.2)
theorem l_zz_0 : (DL_zz_0).OK E_zz tt Z_zz (orcOf O_zz) B_zz_0 := yl (fun _ => rfl) fun _ _ => by kernel_rfl
theorem o_zz : LoopsOK E_zz tt Z_zz O_zz C_zz := by
 have h : loopsOf C_zz = [(0, B_zz_0)] := by kernel_rfl
 unfold LoopsOK
 rw [h]
 exact yc ⟨fun d h => (by have e : some (DL_zz_0) = some d := h; cases e; exact l_zz_0), yn⟩
theorem ok_zz : FnOK prog E_zz tt 140 D_zz K_zz Z_zz O_zz f140 C_zz (fun x => T_zz x.1.1) (fun r => (((), ()), (r, ()))) := yk func140 o_zz e_zz
theorem fd_zz : FDok prog (140, D_zz) := fn_ok mixed (env_ok (yc ⟨fd_zy, yn⟩)) tabOK ok_zz
theorem e_zbc : ∀ x : D_zbc.T, ((acode E_zbc tt Z_zbc (orcOf O_zbc) C_zbc (entry A_zbc I_zbc x)).map (keepRet tt K_zbc)).ev = ((T_zbc x.1.2.1 x.1.2.2.1 x.1.2.2.2.1 x.2.1).map fun r => some ((((), (r, ()))) : K_zbc.T)).ev := fun _ => by kernel_rfl
noncomputable def B_zbc_2 : Code := ((loopsOf C_zbc).find? fun p => Nat.beq p.1 2).elim .skip (·.2)
theorem l_zbc_2 : (DL_zbc_2).OK E_zbc tt Z_zbc (orcOf O_zbc) B_zbc_2 := yl (fun _ => rfl) fun _ _ => by kernel_rfl
noncomputable def B_zbc_0 : Code := ((loopsOf C_zbc).find? fun p => Nat.beq p.1 0).elim .skip (·.2)
theorem l_zbc_0 : (DL_zbc_0).OK E_zbc tt Z_zbc (orcOf O_zbc) B_zbc_0 := yl (fun _ => rfl) fun _ _ => by kernel_rfl
theorem o_zbc : LoopsOK E_zbc tt Z_zbc O_zbc C_zbc := by
 have h : loopsOf C_zbc = [(0, B_zbc_0), (2, B_zbc_2)] := by kernel_rfl
 unfold LoopsOK
 rw [h]
 exact yc ⟨fun d h => (by have e : some (DL_zbc_0) = some d := h; cases e; exact l_zbc_0), yc ⟨fun d h => (by have e : some (DL_zbc_2) = some d := h; cases e; exact l_zbc_2), yn⟩⟩
theorem ok_zbc : FnOK prog E_zbc tt 181 D_zbc K_zbc Z_zbc O_zbc f181 C_zbc (fun x => T_zbc x.1.2.1 x.1.2.2.1 x.1.2.2.2.1 x.2.1) (fun r => ((), (r, ()))) := yk func181 o_zbc e_zbc
theorem fd_zbc : FDok prog (181, D_zbc) := fn_ok mixed (env_ok (yn)) tabOK ok_zbc
theorem e_zay : ∀ x : D_zay.T, ((acode E_zay tt Z_zay (orcOf O_zay) C_zay (entry A_zay I_zay x)).map (keepRet tt K_zay)).ev = ((T_zay x.1.2.1 x.1.2.2.1 x.1.2.2.2.1 x.2.1).map fun r => some ((((), (r, ()))) : K_zay.T)).ev := fun _ => by kernel_rfl
noncomputable def B_zay_0 : Code := ((loopsOf C_zay).find? fun p => Nat.beq p.1 0).elim .skip (·.2)
theorem l_zay_0 : (DL_zay_0).OK E_zay tt Z_zay (orcOf O_zay) B_zay_0 := yl (fun _ => rfl) fun _ _ => by kernel_rfl
theorem o_zay : LoopsOK E_zay tt Z_zay O_zay C_zay := by
 have h : loopsOf C_zay = [(0, B_zay_0)] := by kernel_rfl
 unfold LoopsOK
 rw [h]
 exact yc ⟨fun d h => (by have e : some (DL_zay_0) = some d := h; cases e; exact l_zay_0), yn⟩
theorem ok_zay : FnOK prog E_zay tt 183 D_zay K_zay Z_zay O_zay f183 C_zay (fun x => T_zay x.1.2.1 x.1.2.2.1 x.1.2.2.2.1 x.2.1) (fun r => ((), (r, ()))) := yk func183 o_zay e_zay
theorem fd_zay : FDok prog (183, D_zay) := fn_ok mixed (env_ok (yc ⟨fd_zbi, yc ⟨fd_zbp, yn⟩⟩)) tabOK ok_zay
theorem e_zbj : ∀ x : D_zbj.T, ((acode E_zbj tt Z_zbj (orcOf O_zbj) C_zbj (entry A_zbj I_zbj x)).map (keepRet tt K_zbj)).ev = ((T_zbj x.1.1 x.1.2.1 x.1.2.2.1 x.1.2.2.2.2.1 x.2.1.1).map fun r => some ((((r.1, (r.2.1, ())), ((r.2.2, ()), ()))) : K_zbj.T)).ev := fun _ => by kernel_rfl
theorem o_zbj : LoopsOK E_zbj tt Z_zbj O_zbj C_zbj := yz (by kernel_rfl)
theorem ok_zbj : FnOK prog E_zbj tt 200 D_zbj K_zbj Z_zbj O_zbj f200 C_zbj (fun x => T_zbj x.1.1 x.1.2.1 x.1.2.2.1 x.1.2.2.2.2.1 x.2.1.1) (fun r => ((r.1, (r.2.1, ())), ((r.2.2, ()), ()))) := yk func200 o_zbj e_zbj
theorem fd_zbj : FDok prog (200, D_zbj) := fn_ok mixed (env_ok (yn)) tabOK ok_zbj
theorem e_zbg : ∀ x : D_zbg.T, ((acode E_zbg tt Z_zbg (orcOf O_zbg) C_zbg (entry A_zbg I_zbg x)).map (keepRet tt K_zbg)).ev = ((T_zbg x.1.1 x.1.2.1 x.1.2.2.1 x.1.2.2.2.1 x.1.2.2.2.2.2.1 x.2.1.1).map fun r => some ((((r.1, ()), ((r.2, ()), ()))) : K_zbg.T)).ev := fun _ => by kernel_rfl
theorem o_zbg : LoopsOK E_zbg tt Z_zbg O_zbg C_zbg := yz (by kernel_rfl)
theorem ok_zbg : FnOK prog E_zbg tt 197 D_zbg K_zbg Z_zbg O_zbg f197 C_zbg (fun x => T_zbg x.1.1 x.1.2.1 x.1.2.2.1 x.1.2.2.2.1 x.1.2.2.2.2.2.1 x.2.1.1) (fun r => ((r.1, ()), ((r.2, ()), ()))) := yk func197 o_zbg e_zbg
theorem fd_zbg : FDok prog (197, D_zbg) := fn_ok mixed (env_ok (yc ⟨fd_zbj, yn⟩)) tabOK ok_zbg
theorem e_zbe : ∀ x : D_zbe.T, ((acode E_zbe tt Z_zbe (orcOf O_zbe) C_zbe (entry A_zbe I_zbe x)).map (keepRet tt K_zbe)).ev = ((T_zbe x.1.1 x.1.2.1 x.1.2.2.2.1 x.2.1.1).map fun r => some ((((r.1, ()), ((r.2, ()), ()))) : K_zbe.T)).ev := fun _ => by kernel_rfl
theorem o_zbe : LoopsOK E_zbe tt Z_zbe O_zbe C_zbe := yz (by kernel_rfl)
theorem ok_zbe : FnOK prog E_zbe tt 196 D_zbe K_zbe Z_zbe O_zbe f196 C_zbe (fun x => T_zbe x.1.1 x.1.2.1 x.1.2.2.2.1 x.2.1.1) (fun r => ((r.1, ()), ((r.2, ()), ()))) := yk func196 o_zbe e_zbe
theorem fd_zbe : FDok prog (196, D_zbe) := fn_ok mixed (env_ok (yc ⟨fd_zbg, yn⟩)) tabOK ok_zbe
theorem e_zba : ∀ x : D_zba.T, ((acode E_zba tt Z_zba (orcOf O_zba) C_zba (entry A_zba I_zba x)).map (keepRet tt K_zba)).ev = ((T_zba x.1.1 x.1.2.1 x.1.2.2.1 x.1.2.2.2.1).map fun r => some ((((r.1, (r.2, ())), ())) : K_zba.T)).ev := fun _ => by kernel_rfl
theorem o_zba : LoopsOK E_zba tt Z_zba O_zba C_zba := yz (by kernel_rfl)
theorem ok_zba : FnOK prog E_zba tt 184 D_zba K_zba Z_zba O_zba f184 C_zba (fun x => T_zba x.1.1 x.1.2.1 x.1.2.2.1 x.1.2.2.2.1) (fun r => ((r.1, (r.2, ())), ())) := yk func184 o_zba e_zba
theorem fd_zba : FDok prog (184, D_zba) := fn_ok mixed (env_ok (yc ⟨fd_zbe, yc ⟨fd_zbg, yn⟩⟩)) tabOK ok_zba
theorem e_zbl : ∀ x : D_zbl.T, ((acode E_zbl tt Z_zbl (orcOf O_zbl) C_zbl (entry A_zbl I_zbl x)).map (keepRet tt K_zbl)).ev = ((T_zbl x.1.2.1 x.1.2.2.1 x.1.2.2.2.1 x.1.2.2.2.2.1 x.2.1).map fun r => some ((((r.1, (r.2.1, ())), (r.2.2, ()))) : K_zbl.T)).ev := fun _ => by kernel_rfl
noncomputable def B_zbl_0 : Code := ((loopsOf C_zbl).find? fun p => Nat.beq p.1 0).elim .skip (·.2)
theorem l_zbl_0 : (DL_zbl_0).OK E_zbl tt Z_zbl (orcOf O_zbl) B_zbl_0 := yl (fun _ => rfl) fun _ _ => by kernel_rfl
noncomputable def B_zbl_2 : Code := ((loopsOf C_zbl).find? fun p => Nat.beq p.1 2).elim .skip (·.2)
theorem l_zbl_2 : (DL_zbl_2).OK E_zbl tt Z_zbl (orcOf O_zbl) B_zbl_2 := yl (fun _ => rfl) fun _ _ => by kernel_rfl
noncomputable def B_zbl_6 : Code := ((loopsOf C_zbl).find? fun p => Nat.beq p.1 6).elim .skip (·.2)
theorem l_zbl_6 : (DL_zbl_6).OK E_zbl tt Z_zbl (orcOf O_zbl) B_zbl_6 := yl (fun _ => rfl) fun _ _ => by kernel_rfl
noncomputable def B_zbl_8 : Code := ((loopsOf C_zbl).find? fun p => Nat.beq p.1 8).elim .skip (·.2)
theorem l_zbl_8 : (DL_zbl_8).OK E_zbl tt Z_zbl (orcOf O_zbl) B_zbl_8 := yl (fun _ => rfl) fun _ _ => by kernel_rfl
noncomputable def B_zbl_4 : Code := ((loopsOf C_zbl).find? fun p => Nat.beq p.1 4).elim .skip (·.2)
theorem l_zbl_4 : (DL_zbl_4).OK E_zbl tt Z_zbl (orcOf O_zbl) B_zbl_4 := yl (fun _ => rfl) fun _ _ => by kernel_rfl
theorem o_zbl : LoopsOK E_zbl tt Z_zbl O_zbl C_zbl := by
 have h : loopsOf C_zbl = [(0, B_zbl_0), (2, B_zbl_2), (4, B_zbl_4), (6, B_zbl_6), (8, B_zbl_8)] := by kernel_rfl
 unfold LoopsOK
 rw [h]
 exact yc ⟨fun d h => (by have e : some (DL_zbl_0) = some d := h; cases e; exact l_zbl_0), yc ⟨fun d h => (by have e : some (DL_zbl_2) = some d := h; cases e; exact l_zbl_2), yc ⟨fun d h => (by have e : some (DL_zbl_4) = some d := h; cases e; exact l_zbl_4), yc ⟨fun d h => (by have e : some (DL_zbl_6) = some d := h; cases e; exact l_zbl_6), yc ⟨fun d h => (by have e : some (DL_zbl_8) = some d := h; cases e; exact l_zbl_8), yn⟩⟩⟩⟩⟩
theorem ok_zbl : FnOK prog E_zbl tt 188 D_zbl K_zbl Z_zbl O_zbl f188 C_zbl (fun x => T_zbl x.1.2.1 x.1.2.2.1 x.1.2.2.2.1 x.1.2.2.2.2.1 x.2.1) (fun r => ((r.1, (r.2.1, ())), (r.2.2, ()))) := yk func188 o_zbl e_zbl
theorem fd_zbl : FDok prog (188, D_zbl) := fn_ok mixed (env_ok (yn)) tabOK ok_zbl
theorem e_zbn (rec_ : (Int) → (Int) → (Int) → ((HL [y1, y1] → Option (Int))) → ((List Nat) × Y2) → Option ((List Nat) × Y2)) : ∀ x : (Dr_zbn rec_).T, ((acode (E_zbn rec_) tt Z_zbn (orcOf (O_zbn rec_)) C_zbn (entry A_zbn I_zbn x)).map (keepRet tt K_zbn)).ev = ((T_zbn rec_ x.1.2.1 x.1.2.2.1 x.1.2.2.2.1 x.1.2.2.2.2.1 x.2.1).map fun r => some ((((), (r, ()))) : K_zbn.T)).ev := fun _ => by kernel_rfl
noncomputable def B_zbn_0 : Code := ((loopsOf C_zbn).find? fun p => Nat.beq p.1 0).elim .skip (·.2)
theorem l_zbn_0 (rec_ : (Int) → (Int) → (Int) → ((HL [y1, y1] → Option (Int))) → ((List Nat) × Y2) → Option ((List Nat) × Y2)) : (DL_zbn_0 rec_).OK (E_zbn rec_) tt Z_zbn (orcOf (O_zbn rec_)) B_zbn_0 := yl (fun _ => rfl) fun _ _ => by kernel_rfl
theorem o_zbn (rec_ : (Int) → (Int) → (Int) → ((HL [y1, y1] → Option (Int))) → ((List Nat) × Y2) → Option ((List Nat) × Y2)) : LoopsOK (E_zbn rec_) tt Z_zbn (O_zbn rec_) C_zbn := by
 have h : loopsOf C_zbn = [(0, B_zbn_0)] := by kernel_rfl
 unfold LoopsOK
 rw [h]
 exact yc ⟨fun d h => (by have e : some (DL_zbn_0 rec_) = some d := h; cases e; exact l_zbn_0 rec_), yn⟩
theorem ok_zbn (n : Nat) : FnOK prog (E_zbn (F_zbn n)) tt 164 (D_zbn (n + 1)) K_zbn Z_zbn (O_zbn (F_zbn n)) f164 C_zbn (fun x => T_zbn (F_zbn n) x.1.2.1 x.1.2.2.1 x.1.2.2.2.1 x.1.2.2.2.2.1 x.2.1) (fun r => ((), (r, ()))) where
 at_ := func164
 name := by kernel_rfl
 body := by kernel_rfl
 res := by kernel_rfl
 ok := by kernel_rfl
 arity := fun _ => Nat.le_of_ble_eq_true (by kernel_rfl)
 pin := fun _ => by kernel_rfl
 chk := by kernel_rfl
 loops := o_zbn (F_zbn n)
 run := e_zbn (F_zbn n)
 F := fun _ => rfl
 emb := fun _ => rfl
theorem fd_zbn : ∀ n : Nat, FDok prog (164, D_zbn n)
 | 0 => fun _ _ h => nomatch h
 | n + 1 => fn_ok mixed (env_ok (yc ⟨fd_zbc, yc ⟨fd_zay, yc ⟨fd_zba, yc ⟨fd_zbl, yc ⟨fd_zbn n, yn⟩⟩⟩⟩⟩)) tabOK (ok_zbn n)
theorem e_zaw : ∀ x : D_zaw.T, ((acode E_zaw tt Z_zaw (orcOf O_zaw) C_zaw (entry A_zaw I_zaw x)).map (keepRet tt K_zaw)).ev = ((T_zaw x.1.2.1 x.2.1).map fun r => some ((((), (r, ()))) : K_zaw.T)).ev := fun _ => by kernel_rfl
theorem o_zaw : LoopsOK E_zaw tt Z_zaw O_zaw C_zaw := yz (by kernel_rfl)
theorem ok_zaw : FnOK prog E_zaw tt 141 D_zaw K_zaw Z_zaw O_zaw f141 C_zaw (fun x => T_zaw x.1.2.1 x.2.1) (fun r => ((), (r, ()))) := yk func141 o_zaw e_zaw
theorem fd_zaw : FDok prog (141, D_zaw) := fn_ok mixed (env_ok (yc ⟨fd_zan, yc ⟨fd_zbn 1000000, yn⟩⟩)) tabOK ok_zaw
theorem e_za : ∀ x : D_za.T, ((acode E_za tt Z_za (orcOf O_za) C_za (entry A_za I_za x)).map (keepRet tt K_za)).ev = ((T_za x.1.1 x.1.2.1).map fun r => some ((((r, ()), ())) : K_za.T)).ev := fun _ => by kernel_rfl
theorem o_za : LoopsOK E_za tt Z_za O_za C_za := yz (by kernel_rfl)
theorem ok_za : FnOK prog E_za tt 138 D_za K_za Z_za O_za f138 C_za (fun x => T_za x.1.1 x.1.2.1) (fun r => ((r, ()), ())) := yk func138 o_za e_za
theorem fd_za : FDok prog (138, D_za) := fn_ok mixed (env_ok (yc ⟨fd_zd, yn⟩)) tabOK ok_za
theorem e_zap : ∀ x : D_zap.T, ((acode E_zap tt Z_zap (orcOf O_zap) C_zap (entry A_zap I_zap x)).map (keepRet tt K_zap)).ev = ((T_zap x.1.1 x.1.2.1).map fun r => some ((((r, ()), ())) : K_zap.T)).ev := fun _ => by kernel_rfl
noncomputable def B_zap_0 : Code := ((loopsOf C_zap).find? fun p => Nat.beq p.1 0).elim .skip (·.2)
theorem l_zap_0 : (DL_zap_0).OK E_zap tt Z_zap (orcOf O_zap) B_zap_0 := yl (fun _ => rfl) fun _ _ => by kernel_rfl
theorem o_zap : LoopsOK E_zap tt Z_zap O_zap C_zap := by
 have h : loopsOf C_zap = [(0, B_zap_0)] := by kernel_rfl
 unfold LoopsOK
 rw [h]
 exact yc ⟨fun d h => (by have e : some (DL_zap_0) = some d := h; cases e; exact l_zap_0), yn⟩
theorem ok_zap : FnOK prog E_zap tt 165 D_zap K_zap Z_zap O_zap f165 C_zap (fun x => T_zap x.1.1 x.1.2.1) (fun r => ((r, ()), ())) := yk func165 o_zap e_zap
theorem fd_zap : FDok prog (165, D_zap) := fn_ok mixed (env_ok (yc ⟨fd_za, yn⟩)) tabOK ok_zap
theorem e_zc : ∀ x : D_zc.T, ((acode E_zc tt Z_zc (orcOf O_zc) C_zc (entry A_zc I_zc x)).map (keepRet tt K_zc)).ev = ((T_zc x.1.1).map fun r => some ((((r, ()), ())) : K_zc.T)).ev := fun _ => by kernel_rfl
noncomputable def B_zc_0 : Code := ((loopsOf C_zc).find? fun p => Nat.beq p.1 0).elim .skip (·.2)
theorem l_zc_0 : (DL_zc_0).OK E_zc tt Z_zc (orcOf O_zc) B_zc_0 := yl (fun _ => rfl) fun _ _ => by kernel_rfl
theorem o_zc : LoopsOK E_zc tt Z_zc O_zc C_zc := by
 have h : loopsOf C_zc = [(0, B_zc_0)] := by kernel_rfl
 unfold LoopsOK
 rw [h]
 exact yc ⟨fun d h => (by have e : some (DL_zc_0) = some d := h; cases e; exact l_zc_0), yn⟩
theorem ok_zc : FnOK prog E_zc tt 137 D_zc K_zc Z_zc O_zc f137 C_zc (fun x => T_zc x.1.1) (fun r => ((r, ()), ())) := yk func137 o_zc e_zc
theorem fd_zc : FDok prog (137, D_zc) := fn_ok mixed (env_ok (yn)) tabOK ok_zc
theorem e_zab : ∀ x : D_zab.T, ((acode E_zab tt Z_zab (orcOf O_zab) C_zab (entry A_zab I_zab x)).map (keepRet tt K_zab)).ev = ((T_zab x.1.1 x.1.2.1).map fun r => some ((((r, ()), ())) : K_zab.T)).ev := fun _ => by kernel_rfl
theorem o_zab : LoopsOK E_zab tt Z_zab O_zab C_zab := yz (by kernel_rfl)
theorem ok_zab : FnOK prog E_zab tt 142 D_zab K_zab Z_zab O_zab f142 C_zab (fun x => T_zab x.1.1 x.1.2.1) (fun r => ((r, ()), ())) := yk func142 o_zab e_zab
theorem fd_zab : FDok prog (142, D_zab) := fn_ok mixed (env_ok (yc ⟨fd_za, yc ⟨fd_zap, yc ⟨fd_zc, yn⟩⟩⟩)) tabOK ok_zab
theorem e_zai : ∀ x : D_zai.T, ((acode E_zai tt Z_zai (orcOf O_zai) C_zai (entry A_zai I_zai x)).map (keepRet tt K_zai)).ev = ((T_zai x.1.1).map fun r => some (((((), ()), (r, ()))) : K_zai.T)).ev := fun _ => by kernel_rfl
noncomputable def B_zai_0 : Code := ((loopsOf C_zai).find? fun p => Nat.beq p.1 0).elim .skip (·.2)
theorem l_zai_0 : (DL_zai_0).OK E_zai tt Z_zai (orcOf O_zai) B_zai_0 := yl (fun _ => rfl) fun _ _ => by kernel_rfl
theorem o_zai : LoopsOK E_zai tt Z_zai O_zai C_zai := by
 have h : loopsOf C_zai = [(0, B_zai_0)] := by kernel_rfl
 unfold LoopsOK
 rw [h]
 exact yc ⟨fun d h => (by have e : some (DL_zai_0) = some d := h; cases e; exact l_zai_0), yn⟩
theorem ok_zai : FnOK prog E_zai tt 102 D_zai K_zai Z_zai O_zai f102 C_zai (fun x => T_zai x.1.1) (fun r => (((), ()), (r, ()))) := yk func102 o_zai e_zai
theorem fd_zai : FDok prog (102, D_zai) := fn_ok mixed (env_ok (yc ⟨fd_zz, yc ⟨fd_zaw, yc ⟨fd_zaw, yc ⟨fd_zab, yn⟩⟩⟩⟩)) tabOK ok_zai
theorem e_zas : ∀ x : D_zas.T, ((acode E_zas tt Z_zas (orcOf O_zas) C_zas (entry A_zas I_zas x)).map (keepRet tt K_zas)).ev = ((T_zas x.1.2.1 x.2.1).map fun r => some (((((), ()), (r, ()))) : K_zas.T)).ev := fun _ => by kernel_rfl
noncomputable def B_zas_0 : Code := ((loopsOf C_zas).find? fun p => Nat.beq p.1 0).elim .skip (·.2)
theorem l_zas_0 : (DL_zas_0).OK E_zas tt Z_zas (orcOf O_zas) B_zas_0 := yl (fun _ => rfl) fun _ _ => by kernel_rfl
theorem o_zas : LoopsOK E_zas tt Z_zas O_zas C_zas := by
 have h : loopsOf C_zas = [(0, B_zas_0)] := by kernel_rfl
 unfold LoopsOK
 rw [h]
 exact yc ⟨fun d h => (by have e : some (DL_zas_0) = some d := h; cases e; exact l_zas_0), yn⟩
theorem ok_zas : FnOK prog E_zas tt 101 D_zas K_zas Z_zas O_zas f101 C_zas (fun x => T_zas x.1.2.1 x.2.1) (fun r => (((), ()), (r, ()))) := yk func101 o_zas e_zas
theorem fd_zas : FDok prog (101, D_zas) := fn_ok mixed (env_ok (yc ⟨fd_zat, yn⟩)) tabOK ok_zas
theorem e_zah : ∀ x : D_zah.T, ((acode E_zah tt Z_zah (orcOf O_zah) C_zah (entry A_zah I_zah x)).map (keepRet tt K_zah)).ev = ((T_zah x.1.1 x.1.2.1.1).map fun r => some ((((r, ()), ())) : K_zah.T)).ev := fun _ => by kernel_rfl
theorem o_zah : LoopsOK E_zah tt Z_zah O_zah C_zah := yz (by kernel_rfl)
theorem ok_zah : FnOK prog E_zah tt 111 D_zah K_zah Z_zah O_zah f111 C_zah (fun x => T_zah x.1.1 x.1.2.1.1) (fun r => ((r, ()), ())) := yk func111 o_zah e_zah
theorem fd_zah : FDok prog (111, D_zah) := fn_ok mixed (env_ok (yn)) tabOK ok_zah
theorem e_zag : ∀ x : D_zag.T, ((acode E_zag tt Z_zag (orcOf O_zag) C_zag (entry A_zag I_zag x)).map (keepRet tt K_zag)).ev = ((T_zag x.1.1 x.1.2.1).map fun r => some (((((), ()), (r, ()))) : K_zag.T)).ev := fun _ => by kernel_rfl
theorem o_zag : LoopsOK E_zag tt Z_zag O_zag C_zag := yz (by kernel_rfl)
theorem ok_zag : FnOK prog E_zag tt 50 D_zag K_zag Z_zag O_zag f50 C_zag (fun x => T_zag x.1.1 x.1.2.1) (fun r => (((), ()), (r, ()))) := yk func50 o_zag e_zag
theorem fd_zag : FDok prog (50, D_zag) := fn_ok mixed (env_ok (yc ⟨fd_zai, yc ⟨fd_zas, yc ⟨fd_zas, yc ⟨fd_zah, yn⟩⟩⟩⟩)) tabOK ok_zag
theorem e_zaf : ∀ x : D_zaf.T, ((acode E_zaf tt Z_zaf (orcOf O_zaf) C_zaf (entry A_zaf I_zaf x)).map (keepRet tt K_zaf)).ev = ((T_zaf x.1.2.1 x.2.1).map fun r => some (((((), ()), (r, ()))) : K_zaf.T)).ev := fun _ => by kernel_rfl
noncomputable def B_zaf_0 : Code := ((loopsOf C_zaf).find? fun p => Nat.beq p.1 0).elim .skip (·.2)
theorem l_zaf_0 : (DL_zaf_0).OK E_zaf tt Z_zaf (orcOf O_zaf) B_zaf_0 := yl (fun _ => rfl) fun _ _ => by kernel_rfl
theorem o_zaf : LoopsOK E_zaf tt Z_zaf O_zaf C_zaf := by
 have h : loopsOf C_zaf = [(0, B_zaf_0)] := by kernel_rfl
 unfold LoopsOK
 rw [h]
 exact yc ⟨fun d h => (by have e : some (DL_zaf_0) = some d := h; cases e; exact l_zaf_0), yn⟩
theorem ok_zaf : FnOK prog E_zaf tt 49 D_zaf K_zaf Z_zaf O_zaf f49 C_zaf (fun x => T_zaf x.1.2.1 x.2.1) (fun r => (((), ()), (r, ()))) := yk func49 o_zaf e_zaf
theorem fd_zaf : FDok prog (49, D_zaf) := fn_ok mixed (env_ok (yn)) tabOK ok_zaf
theorem e_zs : ∀ x : D_zs.T, ((acode E_zs tt Z_zs (orcOf O_zs) C_zs (entry A_zs I_zs x)).map (keepRet tt K_zs)).ev = ((T_zs x.1.1 x.1.2.1.1 x.1.2.1.2.1 x.1.2.2.1.1).map fun r => some ((((r, ()), ())) : K_zs.T)).ev := fun _ => by kernel_rfl
theorem o_zs : LoopsOK E_zs tt Z_zs O_zs C_zs := yz (by kernel_rfl)
theorem ok_zs : FnOK prog E_zs tt 90 D_zs K_zs Z_zs O_zs f90 C_zs (fun x => T_zs x.1.1 x.1.2.1.1 x.1.2.1.2.1 x.1.2.2.1.1) (fun r => ((r, ()), ())) := yk func90 o_zs e_zs
theorem fd_zs : FDok prog (90, D_zs) := fn_ok mixed (env_ok (yc ⟨fd_zj, yn⟩)) tabOK ok_zs
theorem e_zr : ∀ x : D_zr.T, ((acode E_zr tt Z_zr (orcOf O_zr) C_zr (entry A_zr I_zr x)).map (keepRet tt K_zr)).ev = ((T_zr x.1.1.1 x.1.1.2.1 x.1.2.1 x.1.2.2.1).map fun r => some (((((), (r.1, ())), (r.2, ()))) : K_zr.T)).ev := fun _ => by kernel_rfl
theorem o_zr : LoopsOK E_zr tt Z_zr O_zr C_zr := yz (by kernel_rfl)
theorem ok_zr : FnOK prog E_zr tt 30 D_zr K_zr Z_zr O_zr f30 C_zr (fun x => T_zr x.1.1.1 x.1.1.2.1 x.1.2.1 x.1.2.2.1) (fun r => (((), (r.1, ())), (r.2, ()))) := yk func30 o_zr e_zr
theorem fd_zr : FDok prog (30, D_zr) := fn_ok mixed (env_ok (yc ⟨fd_zac, yc ⟨fd_ze, yc ⟨fd_zag, yc ⟨fd_zaf, yc ⟨fd_zaf, yc ⟨fd_zs, yn⟩⟩⟩⟩⟩⟩)) tabOK ok_zr
theorem e_zcy : ∀ x : D_zcy.T, ((acode E_zcy tt Z_zcy (orcOf O_zcy) C_zcy (entry A_zcy I_zcy x)).map (keepRet tt K_zcy)).ev = ((T_zcy x.1.1.1 x.1.1.2.1 x.1.2.1).map fun r => some ((((r, ()), ())) : K_zcy.T)).ev := fun _ => by kernel_rfl
theorem o_zcy : LoopsOK E_zcy tt Z_zcy O_zcy C_zcy := yz (by kernel_rfl)
theorem ok_zcy : FnOK prog E_zcy tt 91 D_zcy K_zcy Z_zcy O_zcy f91 C_zcy (fun x => T_zcy x.1.1.1 x.1.1.2.1 x.1.2.1) (fun r => ((r, ()), ())) := yk func91 o_zcy e_zcy
theorem fd_zcy : FDok prog (91, D_zcy) := fn_ok mixed (env_ok (yc ⟨fd_zcp, yc ⟨fd_zch, yn⟩⟩)) tabOK ok_zcy
theorem e_zcm : ∀ x : D_zcm.T, ((acode E_zcm tt Z_zcm (orcOf O_zcm) C_zcm (entry A_zcm I_zcm x)).map (keepRet tt K_zcm)).ev = ((T_zcm x.1.1 x.1.2.1).map fun r => some ((((r, ()), ())) : K_zcm.T)).ev := fun _ => by kernel_rfl
noncomputable def B_zcm_0 : Code := ((loopsOf C_zcm).find? fun p => Nat.beq p.1 0).elim .skip (·.2)
theorem l_zcm_0 : (DL_zcm_0).OK E_zcm tt Z_zcm (orcOf O_zcm) B_zcm_0 := yl (fun _ => rfl) fun _ _ => by kernel_rfl
theorem o_zcm : LoopsOK E_zcm tt Z_zcm O_zcm C_zcm := by
 have h : loopsOf C_zcm = [(0, B_zcm_0)] := by kernel_rfl
 unfold LoopsOK
 rw [h]
 exact yc ⟨fun d h => (by have e : some (DL_zcm_0) = some d := h; cases e; exact l_zcm_0), yn⟩
theorem ok_zcm : FnOK prog E_zcm tt 112 D_zcm K_zcm Z_zcm O_zcm f112 C_zcm (fun x => T_zcm x.1.1 x.1.2.1) (fun r => ((r, ()), ())) := yk func112 o_zcm e_zcm
theorem fd_zcm : FDok prog (112, D_zcm) := fn_ok mixed (env_ok (yn)) tabOK ok_zcm
theorem e_zcv : ∀ x : D_zcv.T, ((acode E_zcv tt Z_zcv (orcOf O_zcv) C_zcv (entry A_zcv I_zcv x)).map (keepRet tt K_zcv)).ev = ((T_zcv x.1.1).map fun r => some ((((r, ()), ())) : K_zcv.T)).ev := fun _ => by kernel_rfl
noncomputable def B_zcv_2 : Code := ((loopsOf C_zcv).find? fun p => Nat.beq p.1 2).elim .skip (·.2)
theorem l_zcv_2 : (DL_zcv_2).OK E_zcv tt Z_zcv (orcOf O_zcv) B_zcv_2 := yl (fun _ => rfl) fun _ _ => by kernel_rfl
noncomputable def B_zcv_0 : Code := ((loopsOf C_zcv).find? fun p => Nat.beq p.1 0).elim .skip (·.2)
theorem l_zcv_0 : (DL_zcv_0).OK E_zcv tt Z_zcv (orcOf O_zcv) B_zcv_0 := yl (fun _ => rfl) fun _ _ => by kernel_rfl
theorem o_zcv : LoopsOK E_zcv tt Z_zcv O_zcv C_zcv := by
 have h : loopsOf C_zcv = [(0, B_zcv_0), (2, B_zcv_2)] := by kernel_rfl
 unfold LoopsOK
 rw [h]
 exact yc ⟨fun d h => (by have e : some (DL_zcv_0) = some d := h; cases e; exact l_zcv_0), yc ⟨fun d h => (by have e : some (DL_zcv_2) = some d := h; cases e; exact l_zcv_2), yn⟩⟩
theorem ok_zcv : FnOK prog E_zcv tt 54 D_zcv K_zcv Z_zcv O_zcv f54 C_zcv (fun x => T_zcv x.1.1) (fun r => ((r, ()), ())) := yk func54 o_zcv e_zcv
theorem fd_zcv : FDok prog (54, D_zcv) := fn_ok mixed (env_ok (yc ⟨fd_zcn, yc ⟨fd_zcm, yn⟩⟩)) tabOK ok_zcv
theorem e_zbs : ∀ x : D_zbs.T, ((acode E_zbs tt Z_zbs (orcOf O_zbs) C_zbs (entry A_zbs I_zbs x)).map (keepRet tt K_zbs)).ev = ((T_zbs x.1.1.1 x.1.1.2.1 x.1.2.1 x.1.2.2.1).map fun r => some ((((r.1, (r.2, ())), ())) : K_zbs.T)).ev := fun _ => by kernel_rfl
noncomputable def B_zbs_0 : Code := ((loopsOf C_zbs).find? fun p => Nat.beq p.1 0).elim .skip (·.2)
theorem l_zbs_0 : (DL_zbs_0).OK E_zbs tt Z_zbs (orcOf O_zbs) B_zbs_0 := yl (fun _ => rfl) fun _ _ => by kernel_rfl
theorem o_zbs : LoopsOK E_zbs tt Z_zbs O_zbs C_zbs := by
 have h : loopsOf C_zbs = [(0, B_zbs_0)] := by kernel_rfl
 unfold LoopsOK
 rw [h]
 exact yc ⟨fun d h => (by have e : some (DL_zbs_0) = some d := h; cases e; exact l_zbs_0), yn⟩
theorem ok_zbs : FnOK prog E_zbs tt 31 D_zbs K_zbs Z_zbs O_zbs f31 C_zbs (fun x => T_zbs x.1.1.1 x.1.1.2.1 x.1.2.1 x.1.2.2.1) (fun r => ((r.1, (r.2, ())), ())) := yk func31 o_zbs e_zbs
theorem fd_zbs : FDok prog (31, D_zbs) := fn_ok mixed (env_ok (yc ⟨fd_zcy, yc ⟨fd_zct, yc ⟨fd_zcv, yc ⟨fd_zbu, yn⟩⟩⟩⟩)) tabOK ok_zbs
theorem e_zam : ∀ x : D_zam.T, ((acode E_zam tt Z_zam (orcOf O_zam) C_zam (entry A_zam I_zam x)).map (keepRet tt K_zam)).ev = ((T_zam x.1.1 x.1.2.1).map fun r => some ((((r, ()), ())) : K_zam.T)).ev := fun _ => by kernel_rfl
noncomputable def B_zam_0 : Code := ((loopsOf C_zam).find? fun p => Nat.beq p.1 0).elim .skip (·.2)
theorem l_zam_0 : (DL_zam_0).OK E_zam tt Z_zam (orcOf O_zam) B_zam_0 := yl (fun _ => rfl) fun _ _ => by kernel_rfl
theorem o_zam : LoopsOK E_zam tt Z_zam O_zam C_zam := by
 have h : loopsOf C_zam = [(0, B_zam_0)] := by kernel_rfl
 unfold LoopsOK
 rw [h]
 exact yc ⟨fun d h => (by have e : some (DL_zam_0) = some d := h; cases e; exact l_zam_0), yn⟩
theorem ok_zam : FnOK prog E_zam tt 10 D_zam K_zam Z_zam O_zam f10 C_zam (fun x => T_zam x.1.1 x.1.2.1) (fun r => ((r, ()), ())) := yk func10 o_zam e_zam
theorem fd_zam : FDok prog (10, D_zam) := fn_ok mixed (env_ok (yn)) tabOK ok_zam
theorem e_zi : ∀ x : D_zi.T, ((acode E_zi tt Z_zi (orcOf O_zi) C_zi (entry A_zi I_zi x)).map (keepRet tt K_zi)).ev = ((T_zi x.1.1 x.1.2.1.1).map fun r => some ((((r, ()), ())) : K_zi.T)).ev := fun _ => by kernel_rfl
theorem o_zi : LoopsOK E_zi tt Z_zi O_zi C_zi := yz (by kernel_rfl)
theorem ok_zi : FnOK prog E_zi tt 128 D_zi K_zi Z_zi O_zi f128 C_zi (fun x => T_zi x.1.1 x.1.2.1.1) (fun r => ((r, ()), ())) := yk func128 o_zi e_zi
theorem fd_zi : FDok prog (128, D_zi) := fn_ok mixed (env_ok (yn)) tabOK ok_zi
theorem e_zaj : ∀ x : D_zaj.T, ((acode E_zaj tt Z_zaj (orcOf O_zaj) C_zaj (entry A_zaj I_zaj x)).map (keepRet tt K_zaj)).ev = ((T_zaj x.1.1).map fun r => some ((((r, ()), ())) : K_zaj.T)).ev := fun _ => by kernel_rfl
noncomputable def B_zaj_0 : Code := ((loopsOf C_zaj).find? fun p => Nat.beq p.1 0).elim .skip (·.2)
theorem l_zaj_0 : (DL_zaj_0).OK E_zaj tt Z_zaj (orcOf O_zaj) B_zaj_0 := yl (fun _ => rfl) fun _ _ => by kernel_rfl
theorem o_zaj : LoopsOK E_zaj tt Z_zaj O_zaj C_zaj := by
 have h : loopsOf C_zaj = [(0, B_zaj_0)] := by kernel_rfl
 unfold LoopsOK
 rw [h]
 exact yc ⟨fun d h => (by have e : some (DL_zaj_0) = some d := h; cases e; exact l_zaj_0), yn⟩
theorem ok_zaj : FnOK prog E_zaj tt 129 D_zaj K_zaj Z_zaj O_zaj f129 C_zaj (fun x => T_zaj x.1.1) (fun r => ((r, ()), ())) := yk func129 o_zaj e_zaj
theorem fd_zaj : FDok prog (129, D_zaj) := fn_ok mixed (env_ok (yn)) tabOK ok_zaj
theorem e_zn : ∀ x : D_zn.T, ((acode E_zn tt Z_zn (orcOf O_zn) C_zn (entry A_zn I_zn x)).map (keepRet tt K_zn)).ev = ((T_zn x.1.1.1 x.1.1.2.1 x.1.2.1).map fun r => some ((((r, ()), ())) : K_zn.T)).ev := fun _ => by kernel_rfl
theorem o_zn : LoopsOK E_zn tt Z_zn O_zn C_zn := yz (by kernel_rfl)
theorem ok_zn : FnOK prog E_zn tt 93 D_zn K_zn Z_zn O_zn f93 C_zn (fun x => T_zn x.1.1.1 x.1.1.2.1 x.1.2.1) (fun r => ((r, ()), ())) := yk func93 o_zn e_zn
theorem fd_zn : FDok prog (93, D_zn) := fn_ok mixed (env_ok (yc ⟨fd_zg, yc ⟨fd_zaj, yn⟩⟩)) tabOK ok_zn
theorem e_zh : ∀ x : D_zh.T, ((acode E_zh tt Z_zh (orcOf O_zh) C_zh (entry A_zh I_zh x)).map (keepRet tt K_zh)).ev = ((T_zh x.1.1.1 x.1.1.2.1 x.1.2.1).map fun r => some (((((), ()), (r, ()))) : K_zh.T)).ev := fun _ => by kernel_rfl
theorem o_zh : LoopsOK E_zh tt Z_zh O_zh C_zh := yz (by kernel_rfl)
theorem ok_zh : FnOK prog E_zh tt 92 D_zh K_zh Z_zh O_zh f92 C_zh (fun x => T_zh x.1.1.1 x.1.1.2.1 x.1.2.1) (fun r => (((), ()), (r, ()))) := yk func92 o_zh e_zh
theorem fd_zh : FDok prog (92, D_zh) := fn_ok mixed (env_ok (yc ⟨fd_zai, yc ⟨fd_zas, yc ⟨fd_zaf, yc ⟨fd_zaf, yc ⟨fd_zn, yc ⟨fd_zas, yc ⟨fd_zi, yn⟩⟩⟩⟩⟩⟩⟩)) tabOK ok_zh
theorem e_zq : ∀ x : D_zq.T, ((acode E_zq tt Z_zq (orcOf O_zq) C_zq (entry A_zq I_zq x)).map (keepRet tt K_zq)).ev = ((T_zq x.1.1.1 x.1.1.2.1 x.1.2.1).map fun r => some (((((), (r.1, ())), (r.2, ()))) : K_zq.T)).ev := fun _ => by kernel_rfl
theorem o_zq : LoopsOK E_zq tt Z_zq O_zq C_zq := yz (by kernel_rfl)
theorem ok_zq : FnOK prog E_zq tt 32 D_zq K_zq Z_zq O_zq f32 C_zq (fun x => T_zq x.1.1.1 x.1.1.2.1 x.1.2.1) (fun r => (((), (r.1, ())), (r.2, ()))) := yk func32 o_zq e_zq
theorem fd_zq : FDok prog (32, D_zq) := fn_ok mixed (env_ok (yc ⟨fd_zac, yc ⟨fd_zh, yn⟩⟩)) tabOK ok_zq
theorem e_zv : ∀ x : D_zv.T, ((acode E_zv tt Z_zv (orcOf O_zv) C_zv (entry A_zv I_zv x)).map (keepRet tt K_zv)).ev = ((T_zv x.1.1.1 x.1.1.2.1 x.1.2.1).map fun r => some ((((r.1, (r.2, ())), ())) : K_zv.T)).ev := fun _ => by kernel_rfl
theorem o_zv : LoopsOK E_zv tt Z_zv O_zv C_zv := yz (by kernel_rfl)
theorem ok_zv : FnOK prog E_zv tt 33 D_zv K_zv Z_zv O_zv f33 C_zv (fun x => T_zv x.1.1.1 x.1.1.2.1 x.1.2.1) (fun r => ((r.1, (r.2, ())), ())) := yk func33 o_zv e_zv
theorem fd_zv : FDok prog (33, D_zv) := fn_ok mixed (env_ok (yc ⟨fd_zad, yc ⟨fd_zn, yn⟩⟩)) tabOK ok_zv
theorem e_zav : ∀ x : D_zav.T, ((acode E_zav tt Z_zav (orcOf O_zav) C_zav (entry A_zav I_zav x)).map (keepRet tt K_zav)).ev = ((T_zav x.1.1).map fun r => some ((((r, ()), ())) : K_zav.T)).ev := fun _ => by kernel_rfl
noncomputable def B_zav_0 : Code := ((loopsOf C_zav).find? fun p => Nat.beq p.1 0).elim .skip (·.2)
theorem l_zav_0 : (DL_zav_0).OK E_zav tt Z_zav (orcOf O_zav) B_zav_0 := yl (fun _ => rfl) fun _ _ => by kernel_rfl
theorem o_zav : LoopsOK E_zav tt Z_zav O_zav C_zav := by
 have h : loopsOf C_zav = [(0, B_zav_0)] := by kernel_rfl
 unfold LoopsOK
 rw [h]
 exact yc ⟨fun d h => (by have e : some (DL_zav_0) = some d := h; cases e; exact l_zav_0), yn⟩
theorem ok_zav : FnOK prog E_zav tt 130 D_zav K_zav Z_zav O_zav f130 C_zav (fun x => T_zav x.1.1) (fun r => ((r, ()), ())) := yk func130 o_zav e_zav
theorem fd_zav : FDok prog (130, D_zav) := fn_ok mixed (env_ok (yn)) tabOK ok_zav
theorem e_zk : ∀ x : D_zk.T, ((acode E_zk tt Z_zk (orcOf O_zk) C_zk (entry A_zk I_zk x)).map (keepRet tt K_zk)).ev = ((T_zk x.1.1.1 x.1.1.2.1 x.1.2.1).map fun r => some ((((r, ()), ())) : K_zk.T)).ev := fun _ => by kernel_rfl
theorem o_zk : LoopsOK E_zk tt Z_zk O_zk C_zk := yz (by kernel_rfl)
theorem ok_zk : FnOK prog E_zk tt 94 D_zk K_zk Z_zk O_zk f94 C_zk (fun x => T_zk x.1.1.1 x.1.1.2.1 x.1.2.1) (fun r => ((r, ()), ())) := yk func94 o_zk e_zk
theorem fd_zk : FDok prog (94, D_zk) := fn_ok mixed (env_ok (yc ⟨fd_zg, yc ⟨fd_zav, yn⟩⟩)) tabOK ok_zk
theorem e_zu : ∀ x : D_zu.T, ((acode E_zu tt Z_zu (orcOf O_zu) C_zu (entry A_zu I_zu x)).map (keepRet tt K_zu)).ev = ((T_zu x.1.1.1 x.1.1.2.1 x.1.2.1).map fun r => some ((((r.1, (r.2, ())), ())) : K_zu.T)).ev := fun _ => by kernel_rfl
theorem o_zu : LoopsOK E_zu tt Z_zu O_zu C_zu := yz (by kernel_rfl)
theorem ok_zu : FnOK prog E_zu tt 34 D_zu K_zu Z_zu O_zu f34 C_zu (fun x => T_zu x.1.1.1 x.1.1.2.1 x.1.2.1) (fun r => ((r.1, (r.2, ())), ())) := yk func34 o_zu e_zu
theorem fd_zu : FDok prog (34, D_zu) := fn_ok mixed (env_ok (yc ⟨fd_zad, yc ⟨fd_zk, yn⟩⟩)) tabOK ok_zu
theorem e_zak : ∀ x : D_zak.T, ((acode E_zak tt Z_zak (orcOf O_zak) C_zak (entry A_zak I_zak x)).map (keepRet tt K_zak)).ev = ((T_zak x.1.1).map fun r => some ((((r, ()), ())) : K_zak.T)).ev := fun _ => by kernel_rfl
noncomputable def B_zak_0 : Code := ((loopsOf C_zak).find? fun p => Nat.beq p.1 0).elim .skip (·.2)
theorem l_zak_0 : (DL_zak_0).OK E_zak tt Z_zak (orcOf O_zak) B_zak_0 := yl (fun _ => rfl) fun _ _ => by kernel_rfl
theorem o_zak : LoopsOK E_zak tt Z_zak O_zak C_zak := by
 have h : loopsOf C_zak = [(0, B_zak_0)] := by kernel_rfl
 unfold LoopsOK
 rw [h]
 exact yc ⟨fun d h => (by have e : some (DL_zak_0) = some d := h; cases e; exact l_zak_0), yn⟩
theorem ok_zak : FnOK prog E_zak tt 4 D_zak K_zak Z_zak O_zak f4 C_zak (fun x => T_zak x.1.1) (fun r => ((r, ()), ())) := yk func4 o_zak e_zak
theorem fd_zak : FDok prog (4, D_zak) := fn_ok mixed (env_ok (yc ⟨fd_zal, yc ⟨fd_zbr, yc ⟨fd_zt, yc ⟨fd_zbt, yc ⟨fd_zbq, yc ⟨fd_zr, yc ⟨fd_zbs, yc ⟨fd_zam, yc ⟨fd_zq, yc ⟨fd_zv, yc ⟨fd_zu, yn⟩⟩⟩⟩⟩⟩⟩⟩⟩⟩⟩)) tabOK ok_zak
end Go.Proofs.YtlemejhffpkbkaaGreat
