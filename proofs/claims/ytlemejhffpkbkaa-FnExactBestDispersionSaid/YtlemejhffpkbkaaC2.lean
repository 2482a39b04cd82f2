import Derived.Test.YtlemejhffpkbkaaC1
namespace Go.Proofs.Ytlemejhffpkbkaa
open Go.Proofs.Try
theorem yk {P : Program} {E : Env} {tt : Nat → TD} {f : Nat} {d : FD} {rt : RetK} {fz : Nat → Nat → List Nat} {l : List (Nat × LD)} {fn : Func} {c : Code} {T : d.T → Tr d.R} {rho : d.R → rt.T} (at_ : P.funcs[f]? = some fn) (loops : LoopsOK E tt fz l c)
    (run : ∀ x : d.T, ((acode E tt fz (orcOf l) c (entry d.A d.ins x)).map (keepRet tt rt)).ev = ((T x).map fun r => some (rho r)).ev) (F : ∀ x, d.F x = (T x).ev := by exact fun _ => rfl) (emb : ∀ r, d.emb r = (val rt.sh (rho r).1, mkObs rt.obs (rho r).2 ++ rt.gone.map fun o => (o, Ob.spent)) := by exact fun _ => rfl)
    (name : (fn.name == "runtime.NumGoroutine") = false := by kernel_rfl) (body : fn.body = some c := by kernel_rfl) (res : fn.results = rt.res.toArray := by kernel_rfl) (ok : rt.ok = true := by kernel_rfl)
    (arity : ∀ x : d.T, (val d.A x.1).length ≤ fn.ntmps := by exact fun _ => Nat.le_of_ble_eq_true (by kernel_rfl)) (pin : ∀ x : d.T, (rt.pins.all fun q => pinAt ((entry d.A d.ins x).slot q.1) q.2.1 q.2.2) = true := by exact fun _ => by kernel_rfl)
    (chk : codeChk fz (pinK rt.pins) fn.ntmps c = true := by kernel_rfl) (gone : (rt.gone.all fun o => (Nat.ble 64 o && (d.ins.map (·.1)).any (Nat.beq o)) && !(rt.obs.map (·.1)).any (Nat.beq o)) = true := by rfl) : FnOK P E tt f d rt fz l fn c T rho :=
  ⟨at_, name, body, res, ok, arity, pin, chk, loops, run, F, emb, gone⟩
theorem yl {E : Env} {tt : Nat → TD} {fz : Nat → Nat → List Nat} {orc : Orc} {b : Code} {d : LD} (eta : ∀ t, d.join (d.sk t) (d.sv t) = t) (step : ∀ k v, ((acode E tt fz orc b (mkSt d.head.S (d.join k v))).map (keepOut (some d.head) d.exits d.rets)).ev = ((d.step k v).bind (d.next k)).ev)
    (ok : d.head.S.ok = true := by kernel_rfl) (oke : d.exits.all (fun p => p.2.S.ok) = true := by kernel_rfl) (okr : d.rets.S.ok = true := by kernel_rfl) : d.OK E tt fz orc b := ⟨ok, oke, okr, eta, step⟩
theorem yz {E : Env} {tt : Nat → TD} {fz : Nat → Nat → List Nat} {l : List (Nat × LD)} {c : Code} (h : loopsOf c = []) : LoopsOK E tt fz l c := by
  unfold LoopsOK
  rw [h]
  exact yn
theorem mixed : prog.follows .mixedOrders = true := by kernel_rfl
theorem tabOK : TabOK prog tt := tab_ok (by kernel_rfl)
theorem e_zx : ∀ x : D_zx.T, ((acode E_zx tt Z_zx (orcOf O_zx) C_zx (entry A_zx I_zx x)).map (keepRet tt K_zx)).ev = ((T_zx x.1.1 x.1.2.1).map fun r => some ((((r, ()), ())) : K_zx.T)).ev := fun _ => by kernel_rfl
theorem o_zx : LoopsOK E_zx tt Z_zx O_zx C_zx := yz (by kernel_rfl)
theorem ok_zx : FnOK prog E_zx tt 62 D_zx K_zx Z_zx O_zx f62 C_zx (fun x => T_zx x.1.1 x.1.2.1) (fun r => ((r, ()), ())) := yk func62 o_zx e_zx
theorem fd_zx : FDok prog (62, D_zx) := fn_ok mixed (env_ok (yn)) tabOK ok_zx
theorem e_zy : ∀ x : D_zy.T, ((acode E_zy tt Z_zy (orcOf O_zy) C_zy (entry A_zy I_zy x)).map (keepRet tt K_zy)).ev = ((T_zy x.1.1 x.1.2.1).map fun r => some ((((r, ()), ())) : K_zy.T)).ev := fun _ => by kernel_rfl
noncomputable def B_zy_0 : Code := ((loopsOf C_zy).find? fun p => Nat.beq p.1 0).elim .skip (·.2)
theorem l_zy_0 : (DL_zy_0).OK E_zy tt Z_zy (orcOf O_zy) B_zy_0 := yl (fun _ => rfl) fun _ _ => by kernel_rfl
theorem o_zy : LoopsOK E_zy tt Z_zy O_zy C_zy := by
 have h : loopsOf C_zy = [(0, B_zy_0)] := by kernel_rfl
 unfold LoopsOK
 rw [h]
 exact yc ⟨fun d h => (by have e : some (DL_zy_0) = some d := h; cases e; exact l_zy_0), yn⟩
theorem ok_zy : FnOK prog E_zy tt 12 D_zy K_zy Z_zy O_zy f12 C_zy (fun x => T_zy x.1.1 x.1.2.1) (fun r => ((r, ()), ())) := yk func12 o_zy e_zy
theorem fd_zy : FDok prog (12, D_zy) := fn_ok mixed (env_ok (yc ⟨fd_zx, yn⟩)) tabOK ok_zy
theorem e_zz : ∀ x : D_zz.T, ((acode E_zz tt Z_zz (orcOf O_zz) C_zz (entry A_zz I_zz x)).map (keepRet tt K_zz)).ev = ((T_zz x.1.1).map fun r => some (((((), ()), (r, ()))) : K_zz.T)).ev := fun _ => by kernel_rfl
noncomputable def B_zz_0 : Code := ((loopsOf C_zz).find? fun p => Nat.beq p.1 0).elim .skip (·.2)
theorem l_zz_0 : (DL_zz_0).OK E_zz tt Z_zz (orcOf O_zz) B_zz_0 := yl (fun _ => rfl) fun _ _ => by kernel_rfl
theorem o_zz : LoopsOK E_zz tt Z_zz O_zz C_zz := by
 have h : loopsOf C_zz = [(0, B_zz_0)] := by kernel_rfl
 unfold LoopsOK
 rw [h]
 exact yc ⟨fun d h => (by have e : some (DL_zz_0) = some d := h; cases e; exact l_zz_0), yn⟩
theorem ok_zz : FnOK prog E_zz tt 26 D_zz K_zz Z_zz O_zz f26 C_zz (fun x => T_zz x.1.1) (fun r => (((), ()), (r, ()))) := yk func26 o_zz e_zz
theorem fd_zz : FDok prog (26, D_zz) := fn_ok mixed (env_ok (yn)) tabOK ok_zz
theorem e_zaa : ∀ x : D_zaa.T, ((acode E_zaa tt Z_zaa (orcOf O_zaa) C_zaa (entry A_zaa I_zaa x)).map (keepRet tt K_zaa)).ev = ((T_zaa x.1.1).map fun r => some (((((), ()), (r, ()))) : K_zaa.T)).ev := fun _ => by kernel_rfl
noncomputable def B_zaa_0 : Code := ((loopsOf C_zaa).find? fun p => Nat.beq p.1 0).elim .skip (·.2)
theorem l_zaa_0 : (DL_zaa_0).OK E_zaa tt Z_zaa (orcOf O_zaa) B_zaa_0 := yl (fun _ => rfl) fun _ _ => by kernel_rfl
theorem o_zaa : LoopsOK E_zaa tt Z_zaa O_zaa C_zaa := by
 have h : loopsOf C_zaa = [(0, B_zaa_0)] := by kernel_rfl
 unfold LoopsOK
 rw [h]
 exact yc ⟨fun d h => (by have e : some (DL_zaa_0) = some d := h; cases e; exact l_zaa_0), yn⟩
theorem ok_zaa : FnOK prog E_zaa tt 14 D_zaa K_zaa Z_zaa O_zaa f14 C_zaa (fun x => T_zaa x.1.1) (fun r => (((), ()), (r, ()))) := yk func14 o_zaa e_zaa
theorem fd_zaa : FDok prog (14, D_zaa) := fn_ok mixed (env_ok (yc ⟨fd_zz, yn⟩)) tabOK ok_zaa
theorem e_zax : ∀ x : D_zax.T, ((acode E_zax tt Z_zax (orcOf O_zax) C_zax (entry A_zax I_zax x)).map (keepRet tt K_zax)).ev = ((T_zax x.1.1 x.1.2.1 x.1.2.2.1).map fun r => some ((((r, ()), ())) : K_zax.T)).ev := fun _ => by kernel_rfl
theorem o_zax : LoopsOK E_zax tt Z_zax O_zax C_zax := yz (by kernel_rfl)
theorem ok_zax : FnOK prog E_zax tt 84 D_zax K_zax Z_zax O_zax f84 C_zax (fun x => T_zax x.1.1 x.1.2.1 x.1.2.2.1) (fun r => ((r, ()), ())) := yk func84 o_zax e_zax
theorem fd_zax : FDok prog (84, D_zax) := fn_ok mixed (env_ok (yn)) tabOK ok_zax
theorem e_zbb : ∀ x : D_zbb.T, ((acode E_zbb tt Z_zbb (orcOf O_zbb) C_zbb (entry A_zbb I_zbb x)).map (keepRet tt K_zbb)).ev = ((T_zbb x.1.1 x.1.2.1 x.1.2.2.1).map fun r => some ((((r, ()), ())) : K_zbb.T)).ev := fun _ => by kernel_rfl
noncomputable def B_zbb_0 : Code := ((loopsOf C_zbb).find? fun p => Nat.beq p.1 0).elim .skip (·.2)
theorem l_zbb_0 : (DL_zbb_0).OK E_zbb tt Z_zbb (orcOf O_zbb) B_zbb_0 := yl (fun _ => rfl) fun _ _ => by kernel_rfl
theorem o_zbb : LoopsOK E_zbb tt Z_zbb O_zbb C_zbb := by
 have h : loopsOf C_zbb = [(0, B_zbb_0)] := by kernel_rfl
 unfold LoopsOK
 rw [h]
 exact yc ⟨fun d h => (by have e : some (DL_zbb_0) = some d := h; cases e; exact l_zbb_0), yn⟩
theorem ok_zbb : FnOK prog E_zbb tt 77 D_zbb K_zbb Z_zbb O_zbb f77 C_zbb (fun x => T_zbb x.1.1 x.1.2.1 x.1.2.2.1) (fun r => ((r, ()), ())) := yk func77 o_zbb e_zbb
theorem fd_zbb : FDok prog (77, D_zbb) := fn_ok mixed (env_ok (yc ⟨fd_zax, yn⟩)) tabOK ok_zbb
theorem e_zav : ∀ x : D_zav.T, ((acode E_zav tt Z_zav (orcOf O_zav) C_zav (entry A_zav I_zav x)).map (keepRet tt K_zav)).ev = ((T_zav x.1.1).map fun r => some ((((r, ()), ())) : K_zav.T)).ev := fun _ => by kernel_rfl
noncomputable def B_zav_2 : Code := ((loopsOf C_zav).find? fun p => Nat.beq p.1 2).elim .skip (·.2)
theorem l_zav_2 : (DL_zav_2).OK E_zav tt Z_zav (orcOf O_zav) B_zav_2 := yl (fun _ => rfl) fun _ _ => by kernel_rfl
noncomputable def B_zav_0 : Code := ((loopsOf C_zav).find? fun p => Nat.beq p.1 0).elim .skip (·.2)
theorem l_zav_0 : (DL_zav_0).OK E_zav tt Z_zav (orcOf O_zav) B_zav_0 := yl (fun _ => rfl) fun _ _ => by kernel_rfl
theorem o_zav : LoopsOK E_zav tt Z_zav O_zav C_zav := by
 have h : loopsOf C_zav = [(0, B_zav_0), (2, B_zav_2)] := by kernel_rfl
 unfold LoopsOK
 rw [h]
 exact yc ⟨fun d h => (by have e : some (DL_zav_0) = some d := h; cases e; exact l_zav_0), yc ⟨fun d h => (by have e : some (DL_zav_2) = some d := h; cases e; exact l_zav_2), yn⟩⟩
theorem ok_zav : FnOK prog E_zav tt 95 D_zav K_zav Z_zav O_zav f95 C_zav (fun x => T_zav x.1.1) (fun r => ((r, ()), ())) := yk func95 o_zav e_zav
theorem fd_zav : FDok prog (95, D_zav) := fn_ok mixed (env_ok (yc ⟨fd_zbb, yn⟩)) tabOK ok_zav
theorem e_zaw : ∀ x : D_zaw.T, ((acode E_zaw tt Z_zaw (orcOf O_zaw) C_zaw (entry A_zaw I_zaw x)).map (keepRet tt K_zaw)).ev = ((T_zaw x.1.1 x.1.2.1).map fun r => some ((((r, ()), ())) : K_zaw.T)).ev := fun _ => by kernel_rfl
theorem o_zaw : LoopsOK E_zaw tt Z_zaw O_zaw C_zaw := yz (by kernel_rfl)
theorem ok_zaw : FnOK prog E_zaw tt 63 D_zaw K_zaw Z_zaw O_zaw f63 C_zaw (fun x => T_zaw x.1.1 x.1.2.1) (fun r => ((r, ()), ())) := yk func63 o_zaw e_zaw
theorem fd_zaw : FDok prog (63, D_zaw) := fn_ok mixed (env_ok (yc ⟨fd_zav, yc ⟨fd_zax, yn⟩⟩)) tabOK ok_zaw
theorem e_zba : ∀ x : D_zba.T, ((acode E_zba tt Z_zba (orcOf O_zba) C_zba (entry A_zba I_zba x)).map (keepRet tt K_zba)).ev = ((T_zba x.1.1 x.1.2.1).map fun r => some (((((), ()), (r, ()))) : K_zba.T)).ev := fun _ => by kernel_rfl
noncomputable def B_zba_0 : Code := ((loopsOf C_zba).find? fun p => Nat.beq p.1 0).elim .skip (·.2)
theorem l_zba_0 : (DL_zba_0).OK E_zba tt Z_zba (orcOf O_zba) B_zba_0 := yl (fun _ => rfl) fun _ _ => by kernel_rfl
theorem o_zba : LoopsOK E_zba tt Z_zba O_zba C_zba := by
 have h : loopsOf C_zba = [(0, B_zba_0)] := by kernel_rfl
 unfold LoopsOK
 rw [h]
 exact yc ⟨fun d h => (by have e : some (DL_zba_0) = some d := h; cases e; exact l_zba_0), yn⟩
theorem ok_zba : FnOK prog E_zba tt 130 D_zba K_zba Z_zba O_zba f130 C_zba (fun x => T_zba x.1.1 x.1.2.1) (fun r => (((), ()), (r, ()))) := yk func130 o_zba e_zba
theorem fd_zba : FDok prog (130, D_zba) := fn_ok mixed (env_ok (yn)) tabOK ok_zba
theorem e_zaz : ∀ x : D_zaz.T, ((acode E_zaz tt Z_zaz (orcOf O_zaz) C_zaz (entry A_zaz I_zaz x)).map (keepRet tt K_zaz)).ev = ((T_zaz x.1.1 x.1.2.1).map fun r => some ((((r, ()), ())) : K_zaz.T)).ev := fun _ => by kernel_rfl
noncomputable def B_zaz_0 : Code := ((loopsOf C_zaz).find? fun p => Nat.beq p.1 0).elim .skip (·.2)
theorem l_zaz_0 : (DL_zaz_0).OK E_zaz tt Z_zaz (orcOf O_zaz) B_zaz_0 := yl (fun _ => rfl) fun _ _ => by kernel_rfl
theorem o_zaz : LoopsOK E_zaz tt Z_zaz O_zaz C_zaz := by
 have h : loopsOf C_zaz = [(0, B_zaz_0)] := by kernel_rfl
 unfold LoopsOK
 rw [h]
 exact yc ⟨fun d h => (by have e : some (DL_zaz_0) = some d := h; cases e; exact l_zaz_0), yn⟩
theorem ok_zaz : FnOK prog E_zaz tt 131 D_zaz K_zaz Z_zaz O_zaz f131 C_zaz (fun x => T_zaz x.1.1 x.1.2.1) (fun r => ((r, ()), ())) := yk func131 o_zaz e_zaz
theorem fd_zaz : FDok prog (131, D_zaz) := fn_ok mixed (env_ok (yn)) tabOK ok_zaz
theorem e_zbc : ∀ x : D_zbc.T, ((acode E_zbc tt Z_zbc (orcOf O_zbc) C_zbc (entry A_zbc I_zbc x)).map (keepRet tt K_zbc)).ev = ((T_zbc x.1.1).map fun r => some ((((r, ()), ())) : K_zbc.T)).ev := fun _ => by kernel_rfl
noncomputable def B_zbc_2 : Code := ((loopsOf C_zbc).find? fun p => Nat.beq p.1 2).elim .skip (·.2)
theorem l_zbc_2 : (DL_zbc_2).OK E_zbc tt Z_zbc (orcOf O_zbc) B_zbc_2 := yl (fun _ => rfl) fun _ _ => by kernel_rfl
noncomputable def B_zbc_0 : Code := ((loopsOf C_zbc).find? fun p => Nat.beq p.1 0).elim .skip (·.2)
theorem l_zbc_0 : (DL_zbc_0).OK E_zbc tt Z_zbc (orcOf O_zbc) B_zbc_0 := yl (fun _ => rfl) fun _ _ => by kernel_rfl
theorem o_zbc : LoopsOK E_zbc tt Z_zbc O_zbc C_zbc := by
 have h : loopsOf C_zbc = [(0, B_zbc_0), (2, B_zbc_2)] := by kernel_rfl
 unfold LoopsOK
 rw [h]
 exact yc ⟨fun d h => (by have e : some (DL_zbc_0) = some d := h; cases e; exact l_zbc_0), yc ⟨fun d h => (by have e : some (DL_zbc_2) = some d := h; cases e; exact l_zbc_2), yn⟩⟩
theorem ok_zbc : FnOK prog E_zbc tt 64 D_zbc K_zbc Z_zbc O_zbc f64 C_zbc (fun x => T_zbc x.1.1) (fun r => ((r, ()), ())) := yk func64 o_zbc e_zbc
theorem fd_zbc : FDok prog (64, D_zbc) := fn_ok mixed (env_ok (yc ⟨fd_zba, yc ⟨fd_zaz, yn⟩⟩)) tabOK ok_zbc
theorem e_zay : ∀ x : D_zay.T, ((acode E_zay tt Z_zay (orcOf O_zay) C_zay (entry A_zay I_zay x)).map (keepRet tt K_zay)).ev = ((T_zay x.1.1 x.1.2.1).map fun r => some ((((r, ()), ())) : K_zay.T)).ev := fun _ => by kernel_rfl
theorem o_zay : LoopsOK E_zay tt Z_zay O_zay C_zay := yz (by kernel_rfl)
theorem ok_zay : FnOK prog E_zay tt 132 D_zay K_zay Z_zay O_zay f132 C_zay (fun x => T_zay x.1.1 x.1.2.1) (fun r => ((r, ()), ())) := yk func132 o_zay e_zay
theorem fd_zay : FDok prog (132, D_zay) := fn_ok mixed (env_ok (yn)) tabOK ok_zay
theorem e_zau : ∀ x : D_zau.T, ((acode E_zau tt Z_zau (orcOf O_zau) C_zau (entry A_zau I_zau x)).map (keepRet tt K_zau)).ev = ((T_zau x.1.1 x.1.2.1).map fun r => some ((((r, ()), ())) : K_zau.T)).ev := fun _ => by kernel_rfl
noncomputable def B_zau_2 : Code := ((loopsOf C_zau).find? fun p => Nat.beq p.1 2).elim .skip (·.2)
theorem l_zau_2 : (DL_zau_2).OK E_zau tt Z_zau (orcOf O_zau) B_zau_2 := yl (fun _ => rfl) fun _ _ => by kernel_rfl
noncomputable def B_zau_0 : Code := ((loopsOf C_zau).find? fun p => Nat.beq p.1 0).elim .skip (·.2)
theorem l_zau_0 : (DL_zau_0).OK E_zau tt Z_zau (orcOf O_zau) B_zau_0 := yl (fun _ => rfl) fun _ _ => by kernel_rfl
theorem o_zau : LoopsOK E_zau tt Z_zau O_zau C_zau := by
 have h : loopsOf C_zau = [(0, B_zau_0), (2, B_zau_2)] := by kernel_rfl
 unfold LoopsOK
 rw [h]
 exact yc ⟨fun d h => (by have e : some (DL_zau_0) = some d := h; cases e; exact l_zau_0), yc ⟨fun d h => (by have e : some (DL_zau_2) = some d := h; cases e; exact l_zau_2), yn⟩⟩
theorem ok_zau : FnOK prog E_zau tt 65 D_zau K_zau Z_zau O_zau f65 C_zau (fun x => T_zau x.1.1 x.1.2.1) (fun r => ((r, ()), ())) := yk func65 o_zau e_zau
theorem fd_zau : FDok prog (65, D_zau) := fn_ok mixed (env_ok (yc ⟨fd_zay, yn⟩)) tabOK ok_zau
theorem e_zat : ∀ x : D_zat.T, ((acode E_zat tt Z_zat (orcOf O_zat) C_zat (entry A_zat I_zat x)).map (keepRet tt K_zat)).ev = ((T_zat x.1.1 x.1.2.1).map fun r => some ((((r.1, (r.2, ())), ())) : K_zat.T)).ev := fun _ => by kernel_rfl
noncomputable def B_zat_0 : Code := ((loopsOf C_zat).find? fun p => Nat.beq p.1 0).elim .skip (·.2)
theorem l_zat_0 : (DL_zat_0).OK E_zat tt Z_zat (orcOf O_zat) B_zat_0 := yl (fun _ => rfl) fun _ _ => by kernel_rfl
theorem o_zat : LoopsOK E_zat tt Z_zat O_zat C_zat := by
 have h : loopsOf C_zat = [(0, B_zat_0)] := by kernel_rfl
 unfold LoopsOK
 rw [h]
 exact yc ⟨fun d h => (by have e : some (DL_zat_0) = some d := h; cases e; exact l_zat_0), yn⟩
theorem ok_zat : FnOK prog E_zat tt 13 D_zat K_zat Z_zat O_zat f13 C_zat (fun x => T_zat x.1.1 x.1.2.1) (fun r => ((r.1, (r.2, ())), ())) := yk func13 o_zat e_zat
theorem fd_zat : FDok prog (13, D_zat) := fn_ok mixed (env_ok (yc ⟨fd_zaw, yc ⟨fd_zbc, yc ⟨fd_zau, yn⟩⟩⟩)) tabOK ok_zat
theorem e_zah : ∀ x : D_zah.T, ((acode E_zah tt Z_zah (orcOf O_zah) C_zah (entry A_zah I_zah x)).map (keepRet tt K_zah)).ev = ((T_zah x.1.1 x.1.2.1).map fun r => some ((((r, ()), ())) : K_zah.T)).ev := fun _ => by kernel_rfl
noncomputable def B_zah_0 : Code := ((loopsOf C_zah).find? fun p => Nat.beq p.1 0).elim .skip (·.2)
theorem l_zah_0 : (DL_zah_0).OK E_zah tt Z_zah (orcOf O_zah) B_zah_0 := yl (fun _ => rfl) fun _ _ => by kernel_rfl
theorem o_zah : LoopsOK E_zah tt Z_zah O_zah C_zah := by
 have h : loopsOf C_zah = [(0, B_zah_0)] := by kernel_rfl
 unfold LoopsOK
 rw [h]
 exact yc ⟨fun d h => (by have e : some (DL_zah_0) = some d := h; cases e; exact l_zah_0), yn⟩
theorem ok_zah : FnOK prog E_zah tt 152 D_zah K_zah Z_zah O_zah f152 C_zah (fun x => T_zah x.1.1 x.1.2.1) (fun r => ((r, ()), ())) := yk func152 o_zah e_zah
theorem fd_zah : FDok prog (152, D_zah) := fn_ok mixed (env_ok (yn)) tabOK ok_zah
theorem e_zae : ∀ x : D_zae.T, ((acode E_zae tt Z_zae (orcOf O_zae) C_zae (entry A_zae I_zae x)).map (keepRet tt K_zae)).ev = ((T_zae x.1.1 x.1.2.1).map fun r => some ((((r, ()), ())) : K_zae.T)).ev := fun _ => by kernel_rfl
theorem o_zae : LoopsOK E_zae tt Z_zae O_zae C_zae := yz (by kernel_rfl)
theorem ok_zae : FnOK prog E_zae tt 99 D_zae K_zae Z_zae O_zae f99 C_zae (fun x => T_zae x.1.1 x.1.2.1) (fun r => ((r, ()), ())) := yk func99 o_zae e_zae
theorem fd_zae : FDok prog (99, D_zae) := fn_ok mixed (env_ok (yc ⟨fd_zah, yn⟩)) tabOK ok_zae
theorem e_zk : ∀ x : D_zk.T, ((acode E_zk tt Z_zk (orcOf O_zk) C_zk (entry A_zk I_zk x)).map (keepRet tt K_zk)).ev = ((T_zk x.1.1 x.1.2.1 x.1.2.2.1).map fun r => some ((((r, ()), ())) : K_zk.T)).ev := fun _ => by kernel_rfl
theorem o_zk : LoopsOK E_zk tt Z_zk O_zk C_zk := yz (by kernel_rfl)
theorem ok_zk : FnOK prog E_zk tt 67 D_zk K_zk Z_zk O_zk f67 C_zk (fun x => T_zk x.1.1 x.1.2.1 x.1.2.2.1) (fun r => ((r, ()), ())) := yk func67 o_zk e_zk
theorem fd_zk : FDok prog (67, D_zk) := fn_ok mixed (env_ok (yn)) tabOK ok_zk
theorem e_zh : ∀ x : D_zh.T, ((acode E_zh tt Z_zh (orcOf O_zh) C_zh (entry A_zh I_zh x)).map (keepRet tt K_zh)).ev = ((T_zh x.1.1 x.1.2.1.1 x.1.2.2.1.1).map fun r => some ((((r, ()), ())) : K_zh.T)).ev := fun _ => by kernel_rfl
theorem o_zh : LoopsOK E_zh tt Z_zh O_zh C_zh := yz (by kernel_rfl)
theorem ok_zh : FnOK prog E_zh tt 178 D_zh K_zh Z_zh O_zh f178 C_zh (fun x => T_zh x.1.1 x.1.2.1.1 x.1.2.2.1.1) (fun r => ((r, ()), ())) := yk func178 o_zh e_zh
theorem fd_zh : FDok prog (178, D_zh) := fn_ok mixed (env_ok (yc ⟨fd_zk, yn⟩)) tabOK ok_zh
theorem e_zg : ∀ x : D_zg.T, ((acode E_zg tt Z_zg (orcOf O_zg) C_zg (entry A_zg I_zg x)).map (keepRet tt K_zg)).ev = ((T_zg x.1.1 x.1.2.1 x.1.2.2.1).map fun r => some ((((r, ()), ())) : K_zg.T)).ev := fun _ => by kernel_rfl
theorem o_zg : LoopsOK E_zg tt Z_zg O_zg C_zg := yz (by kernel_rfl)
theorem ok_zg : FnOK prog E_zg tt 133 D_zg K_zg Z_zg O_zg f133 C_zg (fun x => T_zg x.1.1 x.1.2.1 x.1.2.2.1) (fun r => ((r, ()), ())) := yk func133 o_zg e_zg
theorem fd_zg : FDok prog (133, D_zg) := fn_ok mixed (env_ok (yc ⟨fd_zae, yc ⟨fd_zae, yc ⟨fd_zh, yn⟩⟩⟩)) tabOK ok_zg
theorem e_zf : ∀ x : D_zf.T, ((acode E_zf tt Z_zf (orcOf O_zf) C_zf (entry A_zf I_zf x)).map (keepRet tt K_zf)).ev = ((T_zf x.1.1).map fun r => some ((((r, ()), ())) : K_zf.T)).ev := fun _ => by kernel_rfl
noncomputable def B_zf_0 : Code := ((loopsOf C_zf).find? fun p => Nat.beq p.1 0).elim .skip (·.2)
theorem l_zf_0 : (DL_zf_0).OK E_zf tt Z_zf (orcOf O_zf) B_zf_0 := yl (fun _ => rfl) fun _ _ => by kernel_rfl
noncomputable def B_zf_4 : Code := ((loopsOf C_zf).find? fun p => Nat.beq p.1 4).elim .skip (·.2)
theorem l_zf_4 : (DL_zf_4).OK E_zf tt Z_zf (orcOf O_zf) B_zf_4 := yl (fun _ => rfl) fun _ _ => by kernel_rfl
noncomputable def B_zf_2 : Code := ((loopsOf C_zf).find? fun p => Nat.beq p.1 2).elim .skip (·.2)
theorem l_zf_2 : (DL_zf_2).OK E_zf tt Z_zf (orcOf O_zf) B_zf_2 := yl (fun _ => rfl) fun _ _ => by kernel_rfl
theorem o_zf : LoopsOK E_zf tt Z_zf O_zf C_zf := by
 have h : loopsOf C_zf = [(0, B_zf_0), (2, B_zf_2), (4, B_zf_4)] := by kernel_rfl
 unfold LoopsOK
 rw [h]
 exact yc ⟨fun d h => (by have e : some (DL_zf_0) = some d := h; cases e; exact l_zf_0), yc ⟨fun d h => (by have e : some (DL_zf_2) = some d := h; cases e; exact l_zf_2), yc ⟨fun d h => (by have e : some (DL_zf_4) = some d := h; cases e; exact l_zf_4), yn⟩⟩⟩
theorem ok_zf : FnOK prog E_zf tt 66 D_zf K_zf Z_zf O_zf f66 C_zf (fun x => T_zf x.1.1) (fun r => ((r, ()), ())) := yk func66 o_zf e_zf
theorem fd_zf : FDok prog (66, D_zf) := fn_ok mixed (env_ok (yc ⟨fd_zg, yn⟩)) tabOK ok_zf
theorem e_zi : ∀ x : D_zi.T, ((acode E_zi tt Z_zi (orcOf O_zi) C_zi (entry A_zi I_zi x)).map (keepRet tt K_zi)).ev = ((T_zi x.1.1 x.1.2.1).map fun r => some ((((r, ()), ())) : K_zi.T)).ev := fun _ => by kernel_rfl
theorem o_zi : LoopsOK E_zi tt Z_zi O_zi C_zi := yz (by kernel_rfl)
theorem ok_zi : FnOK prog E_zi tt 202 D_zi K_zi Z_zi O_zi f202 C_zi (fun x => T_zi x.1.1 x.1.2.1) (fun r => ((r, ()), ())) := yk func202 o_zi e_zi
theorem fd_zi : FDok prog (202, D_zi) := fn_ok mixed (env_ok (yn)) tabOK ok_zi
theorem e_zj : ∀ x : D_zj.T, ((acode E_zj tt Z_zj (orcOf O_zj) C_zj (entry A_zj I_zj x)).map (keepRet tt K_zj)).ev = ((T_zj x.1.1).map fun r => some (((((), ()), (r, ()))) : K_zj.T)).ev := fun _ => by kernel_rfl
noncomputable def B_zj_0 : Code := ((loopsOf C_zj).find? fun p => Nat.beq p.1 0).elim .skip (·.2)
theorem l_zj_0 : (DL_zj_0).OK E_zj tt Z_zj (orcOf O_zj) B_zj_0 := yl (fun _ => rfl) fun _ _ => by kernel_rfl
theorem o_zj : LoopsOK E_zj tt Z_zj O_zj C_zj := by
 have h : loopsOf C_zj = [(0, B_zj_0)] := by kernel_rfl
 unfold LoopsOK
 rw [h]
 exact yc ⟨fun d h => (by have e : some (DL_zj_0) = some d := h; cases e; exact l_zj_0), yn⟩
theorem ok_zj : FnOK prog E_zj tt 180 D_zj K_zj Z_zj O_zj f180 C_zj (fun x => T_zj x.1.1) (fun r => (((), ()), (r, ()))) := yk func180 o_zj e_zj
theorem fd_zj : FDok prog (180, D_zj) := fn_ok mixed (env_ok (yc ⟨fd_zi, yn⟩)) tabOK ok_zj
theorem e_zac : ∀ x : D_zac.T, ((acode E_zac tt Z_zac (orcOf O_zac) C_zac (entry A_zac I_zac x)).map (keepRet tt K_zac)).ev = ((T_zac x.1.1).map fun r => some ((((r, ()), ())) : K_zac.T)).ev := fun _ => by kernel_rfl
theorem o_zac : LoopsOK E_zac tt Z_zac O_zac C_zac := yz (by kernel_rfl)
theorem ok_zac : FnOK prog E_zac tt 216 D_zac K_zac Z_zac O_zac f216 C_zac (fun x => T_zac x.1.1) (fun r => ((r, ()), ())) := yk func216 o_zac e_zac
theorem fd_zac : FDok prog (216, D_zac) := fn_ok mixed (env_ok (yn)) tabOK ok_zac
theorem e_zab : ∀ x : D_zab.T, ((acode E_zab tt Z_zab (orcOf O_zab) C_zab (entry A_zab I_zab x)).map (keepRet tt K_zab)).ev = ((T_zab x.1.1).map fun r => some ((((r, ()), ())) : K_zab.T)).ev := fun _ => by kernel_rfl
theorem o_zab : LoopsOK E_zab tt Z_zab O_zab C_zab := yz (by kernel_rfl)
theorem ok_zab : FnOK prog E_zab tt 186 D_zab K_zab Z_zab O_zab f186 C_zab (fun x => T_zab x.1.1) (fun r => ((r, ()), ())) := yk func186 o_zab e_zab
theorem fd_zab : FDok prog (186, D_zab) := fn_ok mixed (env_ok (yc ⟨fd_zac, yn⟩)) tabOK ok_zab
theorem e_zal : ∀ x : D_zal.T, ((acode E_zal tt Z_zal (orcOf O_zal) C_zal (entry A_zal I_zal x)).map (keepRet tt K_zal)).ev = ((T_zal x.1.2.1 x.1.2.2.1 x.1.2.2.2.1 x.2.1).map fun r => some ((((), (r, ()))) : K_zal.T)).ev := fun _ => by kernel_rfl
noncomputable def B_zal_2 : Code := ((loopsOf C_zal).find? fun p => Nat.beq p.1 2).elim .skip (·.2)
theorem l_zal_2 : (DL_zal_2).OK E_zal tt Z_zal (orcOf O_zal) B_zal_2 := yl (fun _ => rfl) fun _ _ => by kernel_rfl
noncomputable def B_zal_0 : Code := ((loopsOf C_zal).find? fun p => Nat.beq p.1 0).elim .skip (·.2)
theorem l_zal_0 : (DL_zal_0).OK E_zal tt Z_zal (orcOf O_zal) B_zal_0 := yl (fun _ => rfl) fun _ _ => by kernel_rfl
theorem o_zal : LoopsOK E_zal tt Z_zal O_zal C_zal := by
 have h : loopsOf C_zal = [(0, B_zal_0), (2, B_zal_2)] := by kernel_rfl
 unfold LoopsOK
 rw [h]
 exact yc ⟨fun d h => (by have e : some (DL_zal_0) = some d := h; cases e; exact l_zal_0), yc ⟨fun d h => (by have e : some (DL_zal_2) = some d := h; cases e; exact l_zal_2), yn⟩⟩
theorem ok_zal : FnOK prog E_zal tt 229 D_zal K_zal Z_zal O_zal f229 C_zal (fun x => T_zal x.1.2.1 x.1.2.2.1 x.1.2.2.2.1 x.2.1) (fun r => ((), (r, ()))) := yk func229 o_zal e_zal
theorem fd_zal : FDok prog (229, D_zal) := fn_ok mixed (env_ok (yn)) tabOK ok_zal
theorem e_zao : ∀ x : D_zao.T, ((acode E_zao tt Z_zao (orcOf O_zao) C_zao (entry A_zao I_zao x)).map (keepRet tt K_zao)).ev = ((T_zao x.1.1).map fun r => some ((((r, ()), ())) : K_zao.T)).ev := fun _ => by kernel_rfl
theorem o_zao : LoopsOK E_zao tt Z_zao O_zao C_zao := yz (by kernel_rfl)
theorem ok_zao : FnOK prog E_zao tt 238 D_zao K_zao Z_zao O_zao f238 C_zao (fun x => T_zao x.1.1) (fun r => ((r, ()), ())) := yk func238 o_zao e_zao
theorem fd_zao : FDok prog (238, D_zao) := fn_ok mixed (env_ok (yc ⟨fd_zab, yn⟩)) tabOK ok_zao
theorem e_zas : ∀ x : D_zas.T, ((acode E_zas tt Z_zas (orcOf O_zas) C_zas (entry A_zas I_zas x)).map (keepRet tt K_zas)).ev = ((T_zas x.2.1.1).map fun r => some ((((r.1, ()), ((r.2, ()), ()))) : K_zas.T)).ev := fun _ => by kernel_rfl
theorem o_zas : LoopsOK E_zas tt Z_zas O_zas C_zas := yz (by kernel_rfl)
theorem ok_zas : FnOK prog E_zas tt 239 D_zas K_zas Z_zas O_zas f239 C_zas (fun x => T_zas x.2.1.1) (fun r => ((r.1, ()), ((r.2, ()), ()))) := yk func239 o_zas e_zas
theorem fd_zas : FDok prog (239, D_zas) := fn_ok mixed (env_ok (yn)) tabOK ok_zas
theorem e_zaj : ∀ x : D_zaj.T, ((acode E_zaj tt Z_zaj (orcOf O_zaj) C_zaj (entry A_zaj I_zaj x)).map (keepRet tt K_zaj)).ev = ((T_zaj x.1.2.1 x.1.2.2.1 x.1.2.2.2.1 x.2.1).map fun r => some ((((), (r, ()))) : K_zaj.T)).ev := fun _ => by kernel_rfl
noncomputable def B_zaj_0 : Code := ((loopsOf C_zaj).find? fun p => Nat.beq p.1 0).elim .skip (·.2)
theorem l_zaj_0 : (DL_zaj_0).OK E_zaj tt Z_zaj (orcOf O_zaj) B_zaj_0 := yl (fun _ => rfl) fun _ _ => by kernel_rfl
theorem o_zaj : LoopsOK E_zaj tt Z_zaj O_zaj C_zaj := by
 have h : loopsOf C_zaj = [(0, B_zaj_0)] := by kernel_rfl
 unfold LoopsOK
 rw [h]
 exact yc ⟨fun d h => (by have e : some (DL_zaj_0) = some d := h; cases e; exact l_zaj_0), yn⟩
theorem ok_zaj : FnOK prog E_zaj tt 231 D_zaj K_zaj Z_zaj O_zaj f231 C_zaj (fun x => T_zaj x.1.2.1 x.1.2.2.1 x.1.2.2.2.1 x.2.1) (fun r => ((), (r, ()))) := yk func231 o_zaj e_zaj
theorem fd_zaj : FDok prog (231, D_zaj) := fn_ok mixed (env_ok (yc ⟨fd_zao, yc ⟨fd_zas, yn⟩⟩)) tabOK ok_zaj
theorem e_zap : ∀ x : D_zap.T, ((acode E_zap tt Z_zap (orcOf O_zap) C_zap (entry A_zap I_zap x)).map (keepRet tt K_zap)).ev = ((T_zap x.1.1 x.1.2.1 x.1.2.2.1 x.1.2.2.2.2.1 x.2.1.1).map fun r => some ((((r.1, (r.2.1, ())), ((r.2.2, ()), ()))) : K_zap.T)).ev := fun _ => by kernel_rfl
theorem o_zap : LoopsOK E_zap tt Z_zap O_zap C_zap := yz (by kernel_rfl)
theorem ok_zap : FnOK prog E_zap tt 260 D_zap K_zap Z_zap O_zap f260 C_zap (fun x => T_zap x.1.1 x.1.2.1 x.1.2.2.1 x.1.2.2.2.2.1 x.2.1.1) (fun r => ((r.1, (r.2.1, ())), ((r.2.2, ()), ()))) := yk func260 o_zap e_zap
theorem fd_zap : FDok prog (260, D_zap) := fn_ok mixed (env_ok (yn)) tabOK ok_zap
theorem e_zan : ∀ x : D_zan.T, ((acode E_zan tt Z_zan (orcOf O_zan) C_zan (entry A_zan I_zan x)).map (keepRet tt K_zan)).ev = ((T_zan x.1.1 x.1.2.1 x.1.2.2.1 x.1.2.2.2.1 x.1.2.2.2.2.2.1 x.2.1.1).map fun r => some ((((r.1, ()), ((r.2, ()), ()))) : K_zan.T)).ev := fun _ => by kernel_rfl
theorem o_zan : LoopsOK E_zan tt Z_zan O_zan C_zan := yz (by kernel_rfl)
theorem ok_zan : FnOK prog E_zan tt 254 D_zan K_zan Z_zan O_zan f254 C_zan (fun x => T_zan x.1.1 x.1.2.1 x.1.2.2.1 x.1.2.2.2.1 x.1.2.2.2.2.2.1 x.2.1.1) (fun r => ((r.1, ()), ((r.2, ()), ()))) := yk func254 o_zan e_zan
theorem fd_zan : FDok prog (254, D_zan) := fn_ok mixed (env_ok (yc ⟨fd_zap, yn⟩)) tabOK ok_zan
theorem e_zam : ∀ x : D_zam.T, ((acode E_zam tt Z_zam (orcOf O_zam) C_zam (entry A_zam I_zam x)).map (keepRet tt K_zam)).ev = ((T_zam x.1.1 x.1.2.1 x.1.2.2.2.1 x.2.1.1).map fun r => some ((((r.1, ()), ((r.2, ()), ()))) : K_zam.T)).ev := fun _ => by kernel_rfl
theorem o_zam : LoopsOK E_zam tt Z_zam O_zam C_zam := yz (by kernel_rfl)
theorem ok_zam : FnOK prog E_zam tt 253 D_zam K_zam Z_zam O_zam f253 C_zam (fun x => T_zam x.1.1 x.1.2.1 x.1.2.2.2.1 x.2.1.1) (fun r => ((r.1, ()), ((r.2, ()), ()))) := yk func253 o_zam e_zam
theorem fd_zam : FDok prog (253, D_zam) := fn_ok mixed (env_ok (yc ⟨fd_zan, yn⟩)) tabOK ok_zam
theorem e_zak : ∀ x : D_zak.T, ((acode E_zak tt Z_zak (orcOf O_zak) C_zak (entry A_zak I_zak x)).map (keepRet tt K_zak)).ev = ((T_zak x.1.1 x.1.2.1 x.1.2.2.1 x.1.2.2.2.1).map fun r => some ((((r.1, (r.2, ())), ())) : K_zak.T)).ev := fun _ => by kernel_rfl
theorem o_zak : LoopsOK E_zak tt Z_zak O_zak C_zak := yz (by kernel_rfl)
theorem ok_zak : FnOK prog E_zak tt 232 D_zak K_zak Z_zak O_zak f232 C_zak (fun x => T_zak x.1.1 x.1.2.1 x.1.2.2.1 x.1.2.2.2.1) (fun r => ((r.1, (r.2, ())), ())) := yk func232 o_zak e_zak
theorem fd_zak : FDok prog (232, D_zak) := fn_ok mixed (env_ok (yc ⟨fd_zam, yc ⟨fd_zan, yn⟩⟩)) tabOK ok_zak
theorem e_zaq : ∀ x : D_zaq.T, ((acode E_zaq tt Z_zaq (orcOf O_zaq) C_zaq (entry A_zaq I_zaq x)).map (keepRet tt K_zaq)).ev = ((T_zaq x.1.2.1 x.1.2.2.1 x.1.2.2.2.1 x.1.2.2.2.2.1 x.2.1).map fun r => some ((((r.1, (r.2.1, ())), (r.2.2, ()))) : K_zaq.T)).ev := fun _ => by kernel_rfl
noncomputable def B_zaq_0 : Code := ((loopsOf C_zaq).find? fun p => Nat.beq p.1 0).elim .skip (·.2)
theorem l_zaq_0 : (DL_zaq_0).OK E_zaq tt Z_zaq (orcOf O_zaq) B_zaq_0 := yl (fun _ => rfl) fun _ _ => by kernel_rfl
noncomputable def B_zaq_2 : Code := ((loopsOf C_zaq).find? fun p => Nat.beq p.1 2).elim .skip (·.2)
theorem l_zaq_2 : (DL_zaq_2).OK E_zaq tt Z_zaq (orcOf O_zaq) B_zaq_2 := yl (fun _ => rfl) fun _ _ => by kernel_rfl
noncomputable def B_zaq_6 : Code := ((loopsOf C_zaq).find? fun p => Nat.beq p.1 6).elim .skip (·.2)
theorem l_zaq_6 : (DL_zaq_6).OK E_zaq tt Z_zaq (orcOf O_zaq) B_zaq_6 := yl (fun _ => rfl) fun _ _ => by kernel_rfl
noncomputable def B_zaq_8 : Code := ((loopsOf C_zaq).find? fun p => Nat.beq p.1 8).elim .skip (·.2)
theorem l_zaq_8 : (DL_zaq_8).OK E_zaq tt Z_zaq (orcOf O_zaq) B_zaq_8 := yl (fun _ => rfl) fun _ _ => by kernel_rfl
noncomputable def B_zaq_4 : Code := ((loopsOf C_zaq).find? fun p => Nat.beq p.1 4).elim .skip (·.2)
theorem l_zaq_4 : (DL_zaq_4).OK E_zaq tt Z_zaq (orcOf O_zaq) B_zaq_4 := yl (fun _ => rfl) fun _ _ => by kernel_rfl
theorem o_zaq : LoopsOK E_zaq tt Z_zaq O_zaq C_zaq := by
 have h : loopsOf C_zaq = [(0, B_zaq_0), (2, B_zaq_2), (4, B_zaq_4), (6, B_zaq_6), (8, B_zaq_8)] := by kernel_rfl
 unfold LoopsOK
 rw [h]
 exact yc ⟨fun d h => (by have e : some (DL_zaq_0) = some d := h; cases e; exact l_zaq_0), yc ⟨fun d h => (by have e : some (DL_zaq_2) = some d := h; cases e; exact l_zaq_2), yc ⟨fun d h => (by have e : some (DL_zaq_4) = some d := h; cases e; exact l_zaq_4), yc ⟨fun d h => (by have e : some (DL_zaq_6) = some d := h; cases e; exact l_zaq_6), yc ⟨fun d h => (by have e : some (DL_zaq_8) = some d := h; cases e; exact l_zaq_8), yn⟩⟩⟩⟩⟩
theorem ok_zaq : FnOK prog E_zaq tt 236 D_zaq K_zaq Z_zaq O_zaq f236 C_zaq (fun x => T_zaq x.1.2.1 x.1.2.2.1 x.1.2.2.2.1 x.1.2.2.2.2.1 x.2.1) (fun r => ((r.1, (r.2.1, ())), (r.2.2, ()))) := yk func236 o_zaq e_zaq
theorem fd_zaq : FDok prog (236, D_zaq) := fn_ok mixed (env_ok (yn)) tabOK ok_zaq
theorem e_zar (rec_ : (Int) → (Int) → (Int) → ((HL [y1, y1] → Option (Int))) → ((List Nat) × Y2) → Option ((List Nat) × Y2)) : ∀ x : (Dr_zar rec_).T, ((acode (E_zar rec_) tt Z_zar (orcOf (O_zar rec_)) C_zar (entry A_zar I_zar x)).map (keepRet tt K_zar)).ev = ((T_zar rec_ x.1.2.1 x.1.2.2.1 x.1.2.2.2.1 x.1.2.2.2.2.1 x.2.1).map fun r => some ((((), (r, ()))) : K_zar.T)).ev := fun _ => by kernel_rfl
noncomputable def B_zar_0 : Code := ((loopsOf C_zar).find? fun p => Nat.beq p.1 0).elim .skip (·.2)
theorem l_zar_0 (rec_ : (Int) → (Int) → (Int) → ((HL [y1, y1] → Option (Int))) → ((List Nat) × Y2) → Option ((List Nat) × Y2)) : (DL_zar_0 rec_).OK (E_zar rec_) tt Z_zar (orcOf (O_zar rec_)) B_zar_0 := yl (fun _ => rfl) fun _ _ => by kernel_rfl
theorem o_zar (rec_ : (Int) → (Int) → (Int) → ((HL [y1, y1] → Option (Int))) → ((List Nat) × Y2) → Option ((List Nat) × Y2)) : LoopsOK (E_zar rec_) tt Z_zar (O_zar rec_) C_zar := by
 have h : loopsOf C_zar = [(0, B_zar_0)] := by kernel_rfl
 unfold LoopsOK
 rw [h]
 exact yc ⟨fun d h => (by have e : some (DL_zar_0 rec_) = some d := h; cases e; exact l_zar_0 rec_), yn⟩
theorem ok_zar (n : Nat) : FnOK prog (E_zar (F_zar n)) tt 203 (D_zar (n + 1)) K_zar Z_zar (O_zar (F_zar n)) f203 C_zar (fun x => T_zar (F_zar n) x.1.2.1 x.1.2.2.1 x.1.2.2.2.1 x.1.2.2.2.2.1 x.2.1) (fun r => ((), (r, ()))) where
 at_ := func203
 name := by kernel_rfl
 body := by kernel_rfl
 res := by kernel_rfl
 ok := by kernel_rfl
 arity := fun _ => Nat.le_of_ble_eq_true (by kernel_rfl)
 pin := fun _ => by kernel_rfl
 chk := by kernel_rfl
 loops := o_zar (F_zar n)
 run := e_zar (F_zar n)
 F := fun _ => rfl
 emb := fun _ => rfl
theorem fd_zar : ∀ n : Nat, FDok prog (203, D_zar n)
 | 0 => fun _ _ h => nomatch h
 | n + 1 => fn_ok mixed (env_ok (yc ⟨fd_zal, yc ⟨fd_zaj, yc ⟨fd_zak, yc ⟨fd_zaq, yc ⟨fd_zar n, yn⟩⟩⟩⟩⟩)) tabOK (ok_zar n)
theorem e_zai : ∀ x : D_zai.T, ((acode E_zai tt Z_zai (orcOf O_zai) C_zai (entry A_zai I_zai x)).map (keepRet tt K_zai)).ev = ((T_zai x.1.2.1 x.2.1).map fun r => some ((((), (r, ()))) : K_zai.T)).ev := fun _ => by kernel_rfl
theorem o_zai : LoopsOK E_zai tt Z_zai O_zai C_zai := yz (by kernel_rfl)
theorem ok_zai : FnOK prog E_zai tt 181 D_zai K_zai Z_zai O_zai f181 C_zai (fun x => T_zai x.1.2.1 x.2.1) (fun r => ((), (r, ()))) := yk func181 o_zai e_zai
theorem fd_zai : FDok prog (181, D_zai) := fn_ok mixed (env_ok (yc ⟨fd_zab, yc ⟨fd_zar 1000000, yn⟩⟩)) tabOK ok_zai
theorem e_zc : ∀ x : D_zc.T, ((acode E_zc tt Z_zc (orcOf O_zc) C_zc (entry A_zc I_zc x)).map (keepRet tt K_zc)).ev = ((T_zc x.1.1).map fun r => some ((((r, ()), ())) : K_zc.T)).ev := fun _ => by kernel_rfl
theorem o_zc : LoopsOK E_zc tt Z_zc O_zc C_zc := yz (by kernel_rfl)
theorem ok_zc : FnOK prog E_zc tt 195 D_zc K_zc Z_zc O_zc f195 C_zc (fun x => T_zc x.1.1) (fun r => ((r, ()), ())) := yk func195 o_zc e_zc
theorem fd_zc : FDok prog (195, D_zc) := fn_ok mixed (env_ok (yn)) tabOK ok_zc
theorem e_za : ∀ x : D_za.T, ((acode E_za tt Z_za (orcOf O_za) C_za (entry A_za I_za x)).map (keepRet tt K_za)).ev = ((T_za x.1.1 x.1.2.1).map fun r => some ((((r, ()), ())) : K_za.T)).ev := fun _ => by kernel_rfl
theorem o_za : LoopsOK E_za tt Z_za O_za C_za := yz (by kernel_rfl)
theorem ok_za : FnOK prog E_za tt 162 D_za K_za Z_za O_za f162 C_za (fun x => T_za x.1.1 x.1.2.1) (fun r => ((r, ()), ())) := yk func162 o_za e_za
theorem fd_za : FDok prog (162, D_za) := fn_ok mixed (env_ok (yc ⟨fd_zc, yn⟩)) tabOK ok_za
theorem e_zad : ∀ x : D_zad.T, ((acode E_zad tt Z_zad (orcOf O_zad) C_zad (entry A_zad I_zad x)).map (keepRet tt K_zad)).ev = ((T_zad x.1.1 x.1.2.1).map fun r => some ((((r, ()), ())) : K_zad.T)).ev := fun _ => by kernel_rfl
noncomputable def B_zad_0 : Code := ((loopsOf C_zad).find? fun p => Nat.beq p.1 0).elim .skip (·.2)
theorem l_zad_0 : (DL_zad_0).OK E_zad tt Z_zad (orcOf O_zad) B_zad_0 := yl (fun _ => rfl) fun _ _ => by kernel_rfl
theorem o_zad : LoopsOK E_zad tt Z_zad O_zad C_zad := by
 have h : loopsOf C_zad = [(0, B_zad_0)] := by kernel_rfl
 unfold LoopsOK
 rw [h]
 exact yc ⟨fun d h => (by have e : some (DL_zad_0) = some d := h; cases e; exact l_zad_0), yn⟩
theorem ok_zad : FnOK prog E_zad tt 204 D_zad K_zad Z_zad O_zad f204 C_zad (fun x => T_zad x.1.1 x.1.2.1) (fun r => ((r, ()), ())) := yk func204 o_zad e_zad
theorem fd_zad : FDok prog (204, D_zad) := fn_ok mixed (env_ok (yc ⟨fd_za, yn⟩)) tabOK ok_zad
theorem e_zb : ∀ x : D_zb.T, ((acode E_zb tt Z_zb (orcOf O_zb) C_zb (entry A_zb I_zb x)).map (keepRet tt K_zb)).ev = ((T_zb x.1.1).map fun r => some ((((r, ()), ())) : K_zb.T)).ev := fun _ => by kernel_rfl
noncomputable def B_zb_0 : Code := ((loopsOf C_zb).find? fun p => Nat.beq p.1 0).elim .skip (·.2)
theorem l_zb_0 : (DL_zb_0).OK E_zb tt Z_zb (orcOf O_zb) B_zb_0 := yl (fun _ => rfl) fun _ _ => by kernel_rfl
theorem o_zb : LoopsOK E_zb tt Z_zb O_zb C_zb := by
 have h : loopsOf C_zb = [(0, B_zb_0)] := by kernel_rfl
 unfold LoopsOK
 rw [h]
 exact yc ⟨fun d h => (by have e : some (DL_zb_0) = some d := h; cases e; exact l_zb_0), yn⟩
theorem ok_zb : FnOK prog E_zb tt 161 D_zb K_zb Z_zb O_zb f161 C_zb (fun x => T_zb x.1.1) (fun r => ((r, ()), ())) := yk func161 o_zb e_zb
theorem fd_zb : FDok prog (161, D_zb) := fn_ok mixed (env_ok (yn)) tabOK ok_zb
theorem e_zl : ∀ x : D_zl.T, ((acode E_zl tt Z_zl (orcOf O_zl) C_zl (entry A_zl I_zl x)).map (keepRet tt K_zl)).ev = ((T_zl x.1.1 x.1.2.1).map fun r => some ((((r, ()), ())) : K_zl.T)).ev := fun _ => by kernel_rfl
theorem o_zl : LoopsOK E_zl tt Z_zl O_zl C_zl := yz (by kernel_rfl)
theorem ok_zl : FnOK prog E_zl tt 182 D_zl K_zl Z_zl O_zl f182 C_zl (fun x => T_zl x.1.1 x.1.2.1) (fun r => ((r, ()), ())) := yk func182 o_zl e_zl
theorem fd_zl : FDok prog (182, D_zl) := fn_ok mixed (env_ok (yc ⟨fd_za, yc ⟨fd_zad, yc ⟨fd_zb, yn⟩⟩⟩)) tabOK ok_zl
theorem e_zq : ∀ x : D_zq.T, ((acode E_zq tt Z_zq (orcOf O_zq) C_zq (entry A_zq I_zq x)).map (keepRet tt K_zq)).ev = ((T_zq x.1.1).map fun r => some (((((), ()), (r, ()))) : K_zq.T)).ev := fun _ => by kernel_rfl
noncomputable def B_zq_0 : Code := ((loopsOf C_zq).find? fun p => Nat.beq p.1 0).elim .skip (·.2)
theorem l_zq_0 : (DL_zq_0).OK E_zq tt Z_zq (orcOf O_zq) B_zq_0 := yl (fun _ => rfl) fun _ _ => by kernel_rfl
theorem o_zq : LoopsOK E_zq tt Z_zq O_zq C_zq := by
 have h : loopsOf C_zq = [(0, B_zq_0)] := by kernel_rfl
 unfold LoopsOK
 rw [h]
 exact yc ⟨fun d h => (by have e : some (DL_zq_0) = some d := h; cases e; exact l_zq_0), yn⟩
theorem ok_zq : FnOK prog E_zq tt 135 D_zq K_zq Z_zq O_zq f135 C_zq (fun x => T_zq x.1.1) (fun r => (((), ()), (r, ()))) := yk func135 o_zq e_zq
theorem fd_zq : FDok prog (135, D_zq) := fn_ok mixed (env_ok (yc ⟨fd_zj, yc ⟨fd_zai, yc ⟨fd_zai, yc ⟨fd_zl, yn⟩⟩⟩⟩)) tabOK ok_zq
theorem e_zag : ∀ x : D_zag.T, ((acode E_zag tt Z_zag (orcOf O_zag) C_zag (entry A_zag I_zag x)).map (keepRet tt K_zag)).ev = ((T_zag x.1.1 x.1.2.1).map fun r => some ((((r, ()), ())) : K_zag.T)).ev := fun _ => by kernel_rfl
noncomputable def B_zag_0 : Code := ((loopsOf C_zag).find? fun p => Nat.beq p.1 0).elim .skip (·.2)
theorem l_zag_0 : (DL_zag_0).OK E_zag tt Z_zag (orcOf O_zag) B_zag_0 := yl (fun _ => rfl) fun _ _ => by kernel_rfl
theorem o_zag : LoopsOK E_zag tt Z_zag O_zag C_zag := by
 have h : loopsOf C_zag = [(0, B_zag_0)] := by kernel_rfl
 unfold LoopsOK
 rw [h]
 exact yc ⟨fun d h => (by have e : some (DL_zag_0) = some d := h; cases e; exact l_zag_0), yn⟩
theorem ok_zag : FnOK prog E_zag tt 179 D_zag K_zag Z_zag O_zag f179 C_zag (fun x => T_zag x.1.1 x.1.2.1) (fun r => ((r, ()), ())) := yk func179 o_zag e_zag
theorem fd_zag : FDok prog (179, D_zag) := fn_ok mixed (env_ok (yn)) tabOK ok_zag
theorem e_zaf : ∀ x : D_zaf.T, ((acode E_zaf tt Z_zaf (orcOf O_zaf) C_zaf (entry A_zaf I_zaf x)).map (keepRet tt K_zaf)).ev = ((T_zaf x.1.2.1 x.2.1).map fun r => some (((((), ()), (r, ()))) : K_zaf.T)).ev := fun _ => by kernel_rfl
noncomputable def B_zaf_0 : Code := ((loopsOf C_zaf).find? fun p => Nat.beq p.1 0).elim .skip (·.2)
theorem l_zaf_0 : (DL_zaf_0).OK E_zaf tt Z_zaf (orcOf O_zaf) B_zaf_0 := yl (fun _ => rfl) fun _ _ => by kernel_rfl
theorem o_zaf : LoopsOK E_zaf tt Z_zaf O_zaf C_zaf := by
 have h : loopsOf C_zaf = [(0, B_zaf_0)] := by kernel_rfl
 unfold LoopsOK
 rw [h]
 exact yc ⟨fun d h => (by have e : some (DL_zaf_0) = some d := h; cases e; exact l_zaf_0), yn⟩
theorem ok_zaf : FnOK prog E_zaf tt 134 D_zaf K_zaf Z_zaf O_zaf f134 C_zaf (fun x => T_zaf x.1.2.1 x.2.1) (fun r => (((), ()), (r, ()))) := yk func134 o_zaf e_zaf
theorem fd_zaf : FDok prog (134, D_zaf) := fn_ok mixed (env_ok (yc ⟨fd_zag, yn⟩)) tabOK ok_zaf
theorem e_zp : ∀ x : D_zp.T, ((acode E_zp tt Z_zp (orcOf O_zp) C_zp (entry A_zp I_zp x)).map (keepRet tt K_zp)).ev = ((T_zp x.1.1 x.1.2.1.1).map fun r => some ((((r, ()), ())) : K_zp.T)).ev := fun _ => by kernel_rfl
theorem o_zp : LoopsOK E_zp tt Z_zp O_zp C_zp := yz (by kernel_rfl)
theorem ok_zp : FnOK prog E_zp tt 136 D_zp K_zp Z_zp O_zp f136 C_zp (fun x => T_zp x.1.1 x.1.2.1.1) (fun r => ((r, ()), ())) := yk func136 o_zp e_zp
theorem fd_zp : FDok prog (136, D_zp) := fn_ok mixed (env_ok (yn)) tabOK ok_zp
theorem e_zo : ∀ x : D_zo.T, ((acode E_zo tt Z_zo (orcOf O_zo) C_zo (entry A_zo I_zo x)).map (keepRet tt K_zo)).ev = ((T_zo x.1.1 x.1.2.1).map fun r => some (((((), ()), (r, ()))) : K_zo.T)).ev := fun _ => by kernel_rfl
theorem o_zo : LoopsOK E_zo tt Z_zo O_zo C_zo := yz (by kernel_rfl)
theorem ok_zo : FnOK prog E_zo tt 69 D_zo K_zo Z_zo O_zo f69 C_zo (fun x => T_zo x.1.1 x.1.2.1) (fun r => (((), ()), (r, ()))) := yk func69 o_zo e_zo
theorem fd_zo : FDok prog (69, D_zo) := fn_ok mixed (env_ok (yc ⟨fd_zq, yc ⟨fd_zaf, yc ⟨fd_zaf, yc ⟨fd_zp, yn⟩⟩⟩⟩)) tabOK ok_zo
theorem e_zn : ∀ x : D_zn.T, ((acode E_zn tt Z_zn (orcOf O_zn) C_zn (entry A_zn I_zn x)).map (keepRet tt K_zn)).ev = ((T_zn x.1.2.1 x.2.1).map fun r => some (((((), ()), (r, ()))) : K_zn.T)).ev := fun _ => by kernel_rfl
noncomputable def B_zn_0 : Code := ((loopsOf C_zn).find? fun p => Nat.beq p.1 0).elim .skip (·.2)
theorem l_zn_0 : (DL_zn_0).OK E_zn tt Z_zn (orcOf O_zn) B_zn_0 := yl (fun _ => rfl) fun _ _ => by kernel_rfl
theorem o_zn : LoopsOK E_zn tt Z_zn O_zn C_zn := by
 have h : loopsOf C_zn = [(0, B_zn_0)] := by kernel_rfl
 unfold LoopsOK
 rw [h]
 exact yc ⟨fun d h => (by have e : some (DL_zn_0) = some d := h; cases e; exact l_zn_0), yn⟩
theorem ok_zn : FnOK prog E_zn tt 68 D_zn K_zn Z_zn O_zn f68 C_zn (fun x => T_zn x.1.2.1 x.2.1) (fun r => (((), ()), (r, ()))) := yk func68 o_zn e_zn
theorem fd_zn : FDok prog (68, D_zn) := fn_ok mixed (env_ok (yn)) tabOK ok_zn
theorem e_zm : ∀ x : D_zm.T, ((acode E_zm tt Z_zm (orcOf O_zm) C_zm (entry A_zm I_zm x)).map (keepRet tt K_zm)).ev = ((T_zm x.1.1 x.1.2.1).map fun r => some ((((r, ()), ())) : K_zm.T)).ev := fun _ => by kernel_rfl
noncomputable def B_zm_2 : Code := ((loopsOf C_zm).find? fun p => Nat.beq p.1 2).elim .skip (·.2)
theorem l_zm_2 : (DL_zm_2).OK E_zm tt Z_zm (orcOf O_zm) B_zm_2 := yl (fun _ => rfl) fun _ _ => by kernel_rfl
noncomputable def B_zm_0 : Code := ((loopsOf C_zm).find? fun p => Nat.beq p.1 0).elim .skip (·.2)
theorem l_zm_0 : (DL_zm_0).OK E_zm tt Z_zm (orcOf O_zm) B_zm_0 := yl (fun _ => rfl) fun _ _ => by kernel_rfl
theorem o_zm : LoopsOK E_zm tt Z_zm O_zm C_zm := by
 have h : loopsOf C_zm = [(0, B_zm_0), (2, B_zm_2)] := by kernel_rfl
 unfold LoopsOK
 rw [h]
 exact yc ⟨fun d h => (by have e : some (DL_zm_0) = some d := h; cases e; exact l_zm_0), yc ⟨fun d h => (by have e : some (DL_zm_2) = some d := h; cases e; exact l_zm_2), yn⟩⟩
theorem ok_zm : FnOK prog E_zm tt 71 D_zm K_zm Z_zm O_zm f71 C_zm (fun x => T_zm x.1.1 x.1.2.1) (fun r => ((r, ()), ())) := yk func71 o_zm e_zm
theorem fd_zm : FDok prog (71, D_zm) := fn_ok mixed (env_ok (yn)) tabOK ok_zm
theorem e_ze : ∀ x : D_ze.T, ((acode E_ze tt Z_ze (orcOf O_ze) C_ze (entry A_ze I_ze x)).map (keepRet tt K_ze)).ev = ((T_ze x.1.1 x.1.2.1.1).map fun r => some ((((r, ()), ())) : K_ze.T)).ev := fun _ => by kernel_rfl
theorem o_ze : LoopsOK E_ze tt Z_ze O_ze C_ze := yz (by kernel_rfl)
theorem ok_ze : FnOK prog E_ze tt 70 D_ze K_ze Z_ze O_ze f70 C_ze (fun x => T_ze x.1.1 x.1.2.1.1) (fun r => ((r, ()), ())) := yk func70 o_ze e_ze
theorem fd_ze : FDok prog (70, D_ze) := fn_ok mixed (env_ok (yc ⟨fd_zm, yn⟩)) tabOK ok_ze
theorem e_zd : ∀ x : D_zd.T, ((acode E_zd tt Z_zd (orcOf O_zd) C_zd (entry A_zd I_zd x)).map (keepRet tt K_zd)).ev = ((T_zd x.1.1 x.1.2.1).map fun r => some (((((), (r.1, ())), (r.2, ()))) : K_zd.T)).ev := fun _ => by kernel_rfl
theorem o_zd : LoopsOK E_zd tt Z_zd O_zd C_zd := yz (by kernel_rfl)
theorem ok_zd : FnOK prog E_zd tt 15 D_zd K_zd Z_zd O_zd f15 C_zd (fun x => T_zd x.1.1 x.1.2.1) (fun r => (((), (r.1, ())), (r.2, ()))) := yk func15 o_zd e_zd
theorem fd_zd : FDok prog (15, D_zd) := fn_ok mixed (env_ok (yc ⟨fd_zf, yc ⟨fd_zk, yc ⟨fd_zo, yc ⟨fd_zn, yc ⟨fd_zn, yc ⟨fd_ze, yn⟩⟩⟩⟩⟩⟩)) tabOK ok_zd
theorem e_zs : ∀ x : D_zs.T, ((acode E_zs tt Z_zs (orcOf O_zs) C_zs (entry A_zs I_zs x)).map (keepRet tt K_zs)).ev = ((T_zs x.1.1 x.1.2.1).map fun r => some ((((r, ()), ())) : K_zs.T)).ev := fun _ => by kernel_rfl
noncomputable def B_zs_0 : Code := ((loopsOf C_zs).find? fun p => Nat.beq p.1 0).elim .skip (·.2)
theorem l_zs_0 : (DL_zs_0).OK E_zs tt Z_zs (orcOf O_zs) B_zs_0 := yl (fun _ => rfl) fun _ _ => by kernel_rfl
theorem o_zs : LoopsOK E_zs tt Z_zs O_zs C_zs := by
 have h : loopsOf C_zs = [(0, B_zs_0)] := by kernel_rfl
 unfold LoopsOK
 rw [h]
 exact yc ⟨fun d h => (by have e : some (DL_zs_0) = some d := h; cases e; exact l_zs_0), yn⟩
theorem ok_zs : FnOK prog E_zs tt 16 D_zs K_zs Z_zs O_zs f16 C_zs (fun x => T_zs x.1.1 x.1.2.1) (fun r => ((r, ()), ())) := yk func16 o_zs e_zs
theorem fd_zs : FDok prog (16, D_zs) := fn_ok mixed (env_ok (yn)) tabOK ok_zs
theorem e_zt : ∀ x : D_zt.T, ((acode E_zt tt Z_zt (orcOf O_zt) C_zt (entry A_zt I_zt x)).map (keepRet tt K_zt)).ev = ((T_zt x.1.1 x.1.2.1).map fun r => some ((((r, ()), ())) : K_zt.T)).ev := fun _ => by kernel_rfl
noncomputable def B_zt_0 : Code := ((loopsOf C_zt).find? fun p => Nat.beq p.1 0).elim .skip (·.2)
theorem l_zt_0 : (DL_zt_0).OK E_zt tt Z_zt (orcOf O_zt) B_zt_0 := yl (fun _ => rfl) fun _ _ => by kernel_rfl
theorem o_zt : LoopsOK E_zt tt Z_zt O_zt C_zt := by
 have h : loopsOf C_zt = [(0, B_zt_0)] := by kernel_rfl
 unfold LoopsOK
 rw [h]
 exact yc ⟨fun d h => (by have e : some (DL_zt_0) = some d := h; cases e; exact l_zt_0), yn⟩
theorem ok_zt : FnOK prog E_zt tt 17 D_zt K_zt Z_zt O_zt f17 C_zt (fun x => T_zt x.1.1 x.1.2.1) (fun r => ((r, ()), ())) := yk func17 o_zt e_zt
theorem fd_zt : FDok prog (17, D_zt) := fn_ok mixed (env_ok (yc ⟨fd_zs, yn⟩)) tabOK ok_zt
theorem e_zv : ∀ x : D_zv.T, ((acode E_zv tt Z_zv (orcOf O_zv) C_zv (entry A_zv I_zv x)).map (keepRet tt K_zv)).ev = ((T_zv x.1.2.1 x.2.1).map fun r => some ((((r.1, ()), (r.2, ()))) : K_zv.T)).ev := fun _ => by kernel_rfl
noncomputable def B_zv_0 : Code := ((loopsOf C_zv).find? fun p => Nat.beq p.1 0).elim .skip (·.2)
theorem l_zv_0 : (DL_zv_0).OK E_zv tt Z_zv (orcOf O_zv) B_zv_0 := yl (fun _ => rfl) fun _ _ => by kernel_rfl
theorem o_zv : LoopsOK E_zv tt Z_zv O_zv C_zv := by
 have h : loopsOf C_zv = [(0, B_zv_0)] := by kernel_rfl
 unfold LoopsOK
 rw [h]
 exact yc ⟨fun d h => (by have e : some (DL_zv_0) = some d := h; cases e; exact l_zv_0), yn⟩
theorem ok_zv : FnOK prog E_zv tt 19 D_zv K_zv Z_zv O_zv f19 C_zv (fun x => T_zv x.1.2.1 x.2.1) (fun r => ((r.1, ()), (r.2, ()))) := yk func19 o_zv e_zv
theorem fd_zv : FDok prog (19, D_zv) := fn_ok mixed (env_ok (yn)) tabOK ok_zv
theorem e_zw : ∀ x : D_zw.T, ((acode E_zw tt Z_zw (orcOf O_zw) C_zw (entry A_zw I_zw x)).map (keepRet tt K_zw)).ev = ((T_zw x.1.2.1 x.2.1).map fun r => some ((((r.1, ()), (r.2, ()))) : K_zw.T)).ev := fun _ => by kernel_rfl
noncomputable def B_zw_0 : Code := ((loopsOf C_zw).find? fun p => Nat.beq p.1 0).elim .skip (·.2)
theorem l_zw_0 : (DL_zw_0).OK E_zw tt Z_zw (orcOf O_zw) B_zw_0 := yl (fun _ => rfl) fun _ _ => by kernel_rfl
theorem o_zw : LoopsOK E_zw tt Z_zw O_zw C_zw := by
 have h : loopsOf C_zw = [(0, B_zw_0)] := by kernel_rfl
 unfold LoopsOK
 rw [h]
 exact yc ⟨fun d h => (by have e : some (DL_zw_0) = some d := h; cases e; exact l_zw_0), yn⟩
theorem ok_zw : FnOK prog E_zw tt 18 D_zw K_zw Z_zw O_zw f18 C_zw (fun x => T_zw x.1.2.1 x.2.1) (fun r => ((r.1, ()), (r.2, ()))) := yk func18 o_zw e_zw
theorem fd_zw : FDok prog (18, D_zw) := fn_ok mixed (env_ok (yc ⟨fd_zv, yn⟩)) tabOK ok_zw
theorem e_zu : ∀ x : D_zu.T, ((acode E_zu tt Z_zu (orcOf O_zu) C_zu (entry A_zu I_zu x)).map (keepRet tt K_zu)).ev = ((T_zu x.1.1 x.1.2.1).map fun r => some ((((r, ()), ())) : K_zu.T)).ev := fun _ => by kernel_rfl
noncomputable def B_zu_0 : Code := ((loopsOf C_zu).find? fun p => Nat.beq p.1 0).elim .skip (·.2)
theorem l_zu_0 : (DL_zu_0).OK E_zu tt Z_zu (orcOf O_zu) B_zu_0 := yl (fun _ => rfl) fun _ _ => by kernel_rfl
theorem o_zu : LoopsOK E_zu tt Z_zu O_zu C_zu := by
 have h : loopsOf C_zu = [(0, B_zu_0)] := by kernel_rfl
 unfold LoopsOK
 rw [h]
 exact yc ⟨fun d h => (by have e : some (DL_zu_0) = some d := h; cases e; exact l_zu_0), yn⟩
theorem ok_zu : FnOK prog E_zu tt 20 D_zu K_zu Z_zu O_zu f20 C_zu (fun x => T_zu x.1.1 x.1.2.1) (fun r => ((r, ()), ())) := yk func20 o_zu e_zu
theorem fd_zu : FDok prog (20, D_zu) := fn_ok mixed (env_ok (yn)) tabOK ok_zu
theorem e_zr : ∀ x : D_zr.T, ((acode E_zr tt Z_zr (orcOf O_zr) C_zr (entry A_zr I_zr x)).map (keepRet tt K_zr)).ev = ((T_zr x.1.1 x.1.2.1).map fun r => some ((((r, ()), ())) : K_zr.T)).ev := fun _ => by kernel_rfl
theorem o_zr : LoopsOK E_zr tt Z_zr O_zr C_zr := yz (by kernel_rfl)
theorem ok_zr : FnOK prog E_zr tt 3 D_zr K_zr Z_zr O_zr f3 C_zr (fun x => T_zr x.1.1 x.1.2.1) (fun r => ((r, ()), ())) := yk func3 o_zr e_zr
theorem fd_zr : FDok prog (3, D_zr) := fn_ok mixed (env_ok (yc ⟨fd_zy, yc ⟨fd_zaa, yc ⟨fd_zat, yc ⟨fd_zd, yc ⟨fd_zs, yc ⟨fd_zt, yc ⟨fd_zw, yc ⟨fd_zv, yc ⟨fd_zu, yn⟩⟩⟩⟩⟩⟩⟩⟩⟩)) tabOK ok_zr
end Go.Proofs.Ytlemejhffpkbkaa
