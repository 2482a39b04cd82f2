import Derived.Test.YtbofjefpngpegaaC1
namespace Go.Proofs.Ytbofjefpngpegaa
open Go.Proofs.Try
theorem yk {P : Program} {E : Env} {tt : Nat → TD} {f : Nat} {d : FD} {rt : RetK} {fz : Nat → Nat → List Nat} {l : List (Nat × LD)} {fn : Func} {c : Code} {T : d.T → Tr d.R} {rho : d.R → rt.T} (at_ : P.funcs[f]? = some fn) (loops : LoopsOK E tt fz l c)
    (run : ∀ x : d.T, ((acode E tt fz (orcOf l) c (entry d.A d.ins x)).map (keepRet tt rt)).ev = ((T x).map fun r => some (rho r)).ev) (F : ∀ x, d.F x = (T x).ev := by exact fun _ => rfl) (emb : ∀ r, d.emb r = (val rt.sh (rho r).1, mkObs rt.obs (rho r).2 ++ rt.gone.map fun o => (o, Ob.spent)) := by exact fun _ => rfl)
    (name : (fn.name == "runtime.NumGoroutine") = false := by kernel_rfl) (body : fn.body = some c := by kernel_rfl) (res : fn.results = rt.res.toArray := by kernel_rfl) (ok : rt.ok = true := by kernel_rfl)
    (arity : ∀ x : d.T, (val d.A x.1).length ≤ fn.ntmps := by exact fun _ => Nat.le_of_ble_eq_true (by kernel_rfl)) (pin : ∀ x : d.T, (rt.pins.all fun q => pinAt ((entry d.A d.ins x).slot q.1) q.2.1 q.2.2) = true := by exact fun _ => by kernel_rfl)
    (chk : codeChk fz (pinK rt.pins) fn.ntmps c = true := by kernel_rfl) (gone : (rt.gone.all fun o => (Nat.ble 64 o && (d.ins.map (·.1)).any (Nat.beq o)) && !(rt.obs.map (·.1)).any (Nat.beq o)) = true := by rfl) : FnOK P E tt f d rt fz l fn c T rho :=
  ⟨at_, name, body, res, ok, arity, pin, chk, loops, run, F, emb, gone⟩
theorem yl {E : Env} {tt : Nat → TD} {fz : Nat → Nat → List Nat} {orc : Orc} {b : Code} {d : LD} (eta : ∀ t, d.join (d.sk t) (d.sv t) = t) (step : ∀ k v, ((acode E tt fz orc b (mkSt d.head.S (d.join k v))).map (keepOut (some d.head) d.exits d.rets)).ev = ((d.step k v).bind (d.next k)).ev)
    (ok : d.head.S.ok = true := by kernel_rfl) (oke : d.exits.all (fun p => p.2.S.ok) = true := by kernel_rfl) (okr : d.rets.S.ok = true := by kernel_rfl) : d.OK E tt fz orc b := ⟨ok, oke, okr, eta, step⟩
theorem yz {E : Env} {tt : Nat → TD} {fz : Nat → Nat → List Nat} {l : List (Nat × LD)} {c : Code} (h : loopsOf c = []) : LoopsOK E tt fz l c := by
  unfold LoopsOK
  rw [h]
  exact yn
theorem mixed : prog.follows .mixedOrders = true := by kernel_rfl
theorem tabOK : TabOK prog tt := tab_ok (by kernel_rfl)
theorem e_zag : ∀ x : D_zag.T, ((acode E_zag tt Z_zag (orcOf O_zag) C_zag (entry A_zag I_zag x)).map (keepRet tt K_zag)).ev = ((T_zag x.1.1 x.1.2.1).map fun r => some ((((r, ()), ())) : K_zag.T)).ev := fun _ => by kernel_rfl
theorem o_zag : LoopsOK E_zag tt Z_zag O_zag C_zag := yz (by kernel_rfl)
theorem ok_zag : FnOK prog E_zag tt 12 D_zag K_zag Z_zag O_zag f12 C_zag (fun x => T_zag x.1.1 x.1.2.1) (fun r => ((r, ()), ())) := yk func12 o_zag e_zag
theorem fd_zag : FDok prog (12, D_zag) := fn_ok mixed (env_ok (yn)) tabOK ok_zag
theorem e_zah : ∀ x : D_zah.T, ((acode E_zah tt Z_zah (orcOf O_zah) C_zah (entry A_zah I_zah x)).map (keepRet tt K_zah)).ev = ((T_zah x.1.1 x.1.2.1).map fun r => some ((((r, ()), ())) : K_zah.T)).ev := fun _ => by kernel_rfl
noncomputable def B_zah_0 : Code := ((loopsOf C_zah).find? fun p => Nat.beq p.1 0).elim .skip (·.2)
theorem l_zah_0 : (DL_zah_0).OK E_zah tt Z_zah (orcOf O_zah) B_zah_0 := yl (fun _ => rfl) fun _ _ => by kernel_rfl
theorem o_zah : LoopsOK E_zah tt Z_zah O_zah C_zah := by
 have h : loopsOf C_zah = [(0, B_zah_0)] := by kernel_rfl
 unfold LoopsOK
 rw [h]
 exact yc ⟨fun d h => (by have e : some (DL_zah_0) = some d := h; cases e; exact l_zah_0), yn⟩
theorem ok_zah : FnOK prog E_zah tt 13 D_zah K_zah Z_zah O_zah f13 C_zah (fun x => T_zah x.1.1 x.1.2.1) (fun r => ((r, ()), ())) := yk func13 o_zah e_zah
theorem fd_zah : FDok prog (13, D_zah) := fn_ok mixed (env_ok (yc ⟨fd_zag, yn⟩)) tabOK ok_zah
theorem e_zaf : ∀ x : D_zaf.T, ((acode E_zaf tt Z_zaf (orcOf O_zaf) C_zaf (entry A_zaf I_zaf x)).map (keepRet tt K_zaf)).ev = ((T_zaf x.1.1.1 x.1.1.2.1 x.1.2.1).map fun r => some ((((r, ()), ())) : K_zaf.T)).ev := fun _ => by kernel_rfl
theorem o_zaf : LoopsOK E_zaf tt Z_zaf O_zaf C_zaf := yz (by kernel_rfl)
theorem ok_zaf : FnOK prog E_zaf tt 4 D_zaf K_zaf Z_zaf O_zaf f4 C_zaf (fun x => T_zaf x.1.1.1 x.1.1.2.1 x.1.2.1) (fun r => ((r, ()), ())) := yk func4 o_zaf e_zaf
theorem fd_zaf : FDok prog (4, D_zaf) := fn_ok mixed (env_ok (yc ⟨fd_zag, yc ⟨fd_zah, yn⟩⟩)) tabOK ok_zaf
theorem e_zaj : ∀ x : D_zaj.T, ((acode E_zaj tt Z_zaj (orcOf O_zaj) C_zaj (entry A_zaj I_zaj x)).map (keepRet tt K_zaj)).ev = ((T_zaj x.1.1).map fun r => some (((((), ()), (r, ()))) : K_zaj.T)).ev := fun _ => by kernel_rfl
noncomputable def B_zaj_0 : Code := ((loopsOf C_zaj).find? fun p => Nat.beq p.1 0).elim .skip (·.2)
theorem l_zaj_0 : (DL_zaj_0).OK E_zaj tt Z_zaj (orcOf O_zaj) B_zaj_0 := yl (fun _ => rfl) fun _ _ => by kernel_rfl
theorem o_zaj : LoopsOK E_zaj tt Z_zaj O_zaj C_zaj := by
 have h : loopsOf C_zaj = [(0, B_zaj_0)] := by kernel_rfl
 unfold LoopsOK
 rw [h]
 exact yc ⟨fun d h => (by have e : some (DL_zaj_0) = some d := h; cases e; exact l_zaj_0), yn⟩
theorem ok_zaj : FnOK prog E_zaj tt 7 D_zaj K_zaj Z_zaj O_zaj f7 C_zaj (fun x => T_zaj x.1.1) (fun r => (((), ()), (r, ()))) := yk func7 o_zaj e_zaj
theorem fd_zaj : FDok prog (7, D_zaj) := fn_ok mixed (env_ok (yn)) tabOK ok_zaj
theorem e_zak : ∀ x : D_zak.T, ((acode E_zak tt Z_zak (orcOf O_zak) C_zak (entry A_zak I_zak x)).map (keepRet tt K_zak)).ev = ((T_zak x.1.1).map fun r => some (((((), ()), (r, ()))) : K_zak.T)).ev := fun _ => by kernel_rfl
noncomputable def B_zak_0 : Code := ((loopsOf C_zak).find? fun p => Nat.beq p.1 0).elim .skip (·.2)
theorem l_zak_0 : (DL_zak_0).OK E_zak tt Z_zak (orcOf O_zak) B_zak_0 := yl (fun _ => rfl) fun _ _ => by kernel_rfl
theorem o_zak : LoopsOK E_zak tt Z_zak O_zak C_zak := by
 have h : loopsOf C_zak = [(0, B_zak_0)] := by kernel_rfl
 unfold LoopsOK
 rw [h]
 exact yc ⟨fun d h => (by have e : some (DL_zak_0) = some d := h; cases e; exact l_zak_0), yn⟩
theorem ok_zak : FnOK prog E_zak tt 20 D_zak K_zak Z_zak O_zak f20 C_zak (fun x => T_zak x.1.1) (fun r => (((), ()), (r, ()))) := yk func20 o_zak e_zak
theorem fd_zak : FDok prog (20, D_zak) := fn_ok mixed (env_ok (yc ⟨fd_zaj, yn⟩)) tabOK ok_zak
theorem e_zai : ∀ x : D_zai.T, ((acode E_zai tt Z_zai (orcOf O_zai) C_zai (entry A_zai I_zai x)).map (keepRet tt K_zai)).ev = ((T_zai x.1.1.1 x.1.1.2.1).map fun r => some ((((((), ((), ())), ()), (r.1, (r.2, ())))) : K_zai.T)).ev := fun _ => by kernel_rfl
theorem o_zai : LoopsOK E_zai tt Z_zai O_zai C_zai := yz (by kernel_rfl)
theorem ok_zai : FnOK prog E_zai tt 6 D_zai K_zai Z_zai O_zai f6 C_zai (fun x => T_zai x.1.1.1 x.1.1.2.1) (fun r => ((((), ((), ())), ()), (r.1, (r.2, ())))) := yk func6 o_zai e_zai
theorem fd_zai : FDok prog (6, D_zai) := fn_ok mixed (env_ok (yc ⟨fd_zaj, yc ⟨fd_zak, yn⟩⟩)) tabOK ok_zai
theorem e_zbu : ∀ x : D_zbu.T, ((acode E_zbu tt Z_zbu (orcOf O_zbu) C_zbu (entry A_zbu I_zbu x)).map (keepRet tt K_zbu)).ev = ((T_zbu x.1.1 x.1.2.1 x.1.2.2.1).map fun r => some ((((r, ()), ())) : K_zbu.T)).ev := fun _ => by kernel_rfl
theorem o_zbu : LoopsOK E_zbu tt Z_zbu O_zbu C_zbu := yz (by kernel_rfl)
theorem ok_zbu : FnOK prog E_zbu tt 30 D_zbu K_zbu Z_zbu O_zbu f30 C_zbu (fun x => T_zbu x.1.1 x.1.2.1 x.1.2.2.1) (fun r => ((r, ()), ())) := yk func30 o_zbu e_zbu
theorem fd_zbu : FDok prog (30, D_zbu) := fn_ok mixed (env_ok (yn)) tabOK ok_zbu
theorem e_zca : ∀ x : D_zca.T, ((acode E_zca tt Z_zca (orcOf O_zca) C_zca (entry A_zca I_zca x)).map (keepRet tt K_zca)).ev = ((T_zca x.1.1 x.1.2.1 x.1.2.2.1).map fun r => some ((((r, ()), ())) : K_zca.T)).ev := fun _ => by kernel_rfl
noncomputable def B_zca_0 : Code := ((loopsOf C_zca).find? fun p => Nat.beq p.1 0).elim .skip (·.2)
theorem l_zca_0 : (DL_zca_0).OK E_zca tt Z_zca (orcOf O_zca) B_zca_0 := yl (fun _ => rfl) fun _ _ => by kernel_rfl
theorem o_zca : LoopsOK E_zca tt Z_zca O_zca C_zca := by
 have h : loopsOf C_zca = [(0, B_zca_0)] := by kernel_rfl
 unfold LoopsOK
 rw [h]
 exact yc ⟨fun d h => (by have e : some (DL_zca_0) = some d := h; cases e; exact l_zca_0), yn⟩
theorem ok_zca : FnOK prog E_zca tt 29 D_zca K_zca Z_zca O_zca f29 C_zca (fun x => T_zca x.1.1 x.1.2.1 x.1.2.2.1) (fun r => ((r, ()), ())) := yk func29 o_zca e_zca
theorem fd_zca : FDok prog (29, D_zca) := fn_ok mixed (env_ok (yc ⟨fd_zbu, yn⟩)) tabOK ok_zca
theorem e_zby : ∀ x : D_zby.T, ((acode E_zby tt Z_zby (orcOf O_zby) C_zby (entry A_zby I_zby x)).map (keepRet tt K_zby)).ev = ((T_zby x.1.1.1 x.1.1.2.1).map fun r => some ((((r, ()), ())) : K_zby.T)).ev := fun _ => by kernel_rfl
noncomputable def B_zby_0 : Code := ((loopsOf C_zby).find? fun p => Nat.beq p.1 0).elim .skip (·.2)
theorem l_zby_0 : (DL_zby_0).OK E_zby tt Z_zby (orcOf O_zby) B_zby_0 := yl (fun _ => rfl) fun _ _ => by kernel_rfl
theorem o_zby : LoopsOK E_zby tt Z_zby O_zby C_zby := by
 have h : loopsOf C_zby = [(0, B_zby_0)] := by kernel_rfl
 unfold LoopsOK
 rw [h]
 exact yc ⟨fun d h => (by have e : some (DL_zby_0) = some d := h; cases e; exact l_zby_0), yn⟩
theorem ok_zby : FnOK prog E_zby tt 14 D_zby K_zby Z_zby O_zby f14 C_zby (fun x => T_zby x.1.1.1 x.1.1.2.1) (fun r => ((r, ()), ())) := yk func14 o_zby e_zby
theorem fd_zby : FDok prog (14, D_zby) := fn_ok mixed (env_ok (yc ⟨fd_zca, yc ⟨fd_zbu, yn⟩⟩)) tabOK ok_zby
theorem e_zbt : ∀ x : D_zbt.T, ((acode E_zbt tt Z_zbt (orcOf O_zbt) C_zbt (entry A_zbt I_zbt x)).map (keepRet tt K_zbt)).ev = ((T_zbt x.1.1 x.1.2.1).map fun r => some ((((r, ()), ())) : K_zbt.T)).ev := fun _ => by kernel_rfl
noncomputable def B_zbt_0 : Code := ((loopsOf C_zbt).find? fun p => Nat.beq p.1 0).elim .skip (·.2)
theorem l_zbt_0 : (DL_zbt_0).OK E_zbt tt Z_zbt (orcOf O_zbt) B_zbt_0 := yl (fun _ => rfl) fun _ _ => by kernel_rfl
theorem o_zbt : LoopsOK E_zbt tt Z_zbt O_zbt C_zbt := by
 have h : loopsOf C_zbt = [(0, B_zbt_0)] := by kernel_rfl
 unfold LoopsOK
 rw [h]
 exact yc ⟨fun d h => (by have e : some (DL_zbt_0) = some d := h; cases e; exact l_zbt_0), yn⟩
theorem ok_zbt : FnOK prog E_zbt tt 31 D_zbt K_zbt Z_zbt O_zbt f31 C_zbt (fun x => T_zbt x.1.1 x.1.2.1) (fun r => ((r, ()), ())) := yk func31 o_zbt e_zbt
theorem fd_zbt : FDok prog (31, D_zbt) := fn_ok mixed (env_ok (yn)) tabOK ok_zbt
theorem e_zbr : ∀ x : D_zbr.T, ((acode E_zbr tt Z_zbr (orcOf O_zbr) C_zbr (entry A_zbr I_zbr x)).map (keepRet tt K_zbr)).ev = ((T_zbr x.1.1.1 x.1.1.2.1 x.1.2.1).map fun r => some ((((r, ()), ())) : K_zbr.T)).ev := fun _ => by kernel_rfl
noncomputable def B_zbr_0 : Code := ((loopsOf C_zbr).find? fun p => Nat.beq p.1 0).elim .skip (·.2)
theorem l_zbr_0 : (DL_zbr_0).OK E_zbr tt Z_zbr (orcOf O_zbr) B_zbr_0 := yl (fun _ => rfl) fun _ _ => by kernel_rfl
theorem o_zbr : LoopsOK E_zbr tt Z_zbr O_zbr C_zbr := by
 have h : loopsOf C_zbr = [(0, B_zbr_0)] := by kernel_rfl
 unfold LoopsOK
 rw [h]
 exact yc ⟨fun d h => (by have e : some (DL_zbr_0) = some d := h; cases e; exact l_zbr_0), yn⟩
theorem ok_zbr : FnOK prog E_zbr tt 15 D_zbr K_zbr Z_zbr O_zbr f15 C_zbr (fun x => T_zbr x.1.1.1 x.1.1.2.1 x.1.2.1) (fun r => ((r, ()), ())) := yk func15 o_zbr e_zbr
theorem fd_zbr : FDok prog (15, D_zbr) := fn_ok mixed (env_ok (yc ⟨fd_zbt, yn⟩)) tabOK ok_zbr
theorem e_zbv : ∀ x : D_zbv.T, ((acode E_zbv tt Z_zbv (orcOf O_zbv) C_zbv (entry A_zbv I_zbv x)).map (keepRet tt K_zbv)).ev = ((T_zbv x.1.1 x.1.2.1).map fun r => some ((((r, ()), ())) : K_zbv.T)).ev := fun _ => by kernel_rfl
noncomputable def B_zbv_0 : Code := ((loopsOf C_zbv).find? fun p => Nat.beq p.1 0).elim .skip (·.2)
theorem l_zbv_0 : (DL_zbv_0).OK E_zbv tt Z_zbv (orcOf O_zbv) B_zbv_0 := yl (fun _ => rfl) fun _ _ => by kernel_rfl
theorem o_zbv : LoopsOK E_zbv tt Z_zbv O_zbv C_zbv := by
 have h : loopsOf C_zbv = [(0, B_zbv_0)] := by kernel_rfl
 unfold LoopsOK
 rw [h]
 exact yc ⟨fun d h => (by have e : some (DL_zbv_0) = some d := h; cases e; exact l_zbv_0), yn⟩
theorem ok_zbv : FnOK prog E_zbv tt 16 D_zbv K_zbv Z_zbv O_zbv f16 C_zbv (fun x => T_zbv x.1.1 x.1.2.1) (fun r => ((r, ()), ())) := yk func16 o_zbv e_zbv
theorem fd_zbv : FDok prog (16, D_zbv) := fn_ok mixed (env_ok (yn)) tabOK ok_zbv
theorem e_zcd : ∀ x : D_zcd.T, ((acode E_zcd tt Z_zcd (orcOf O_zcd) C_zcd (entry A_zcd I_zcd x)).map (keepRet tt K_zcd)).ev = ((T_zcd x.1.1.1 x.1.1.2.1 x.1.2.1 x.1.2.2.1).map fun r => some ((((r, ()), ())) : K_zcd.T)).ev := fun _ => by kernel_rfl
noncomputable def B_zcd_0 : Code := ((loopsOf C_zcd).find? fun p => Nat.beq p.1 0).elim .skip (·.2)
theorem l_zcd_0 : (DL_zcd_0).OK E_zcd tt Z_zcd (orcOf O_zcd) B_zcd_0 := yl (fun _ => rfl) fun _ _ => by kernel_rfl
theorem o_zcd : LoopsOK E_zcd tt Z_zcd O_zcd C_zcd := by
 have h : loopsOf C_zcd = [(0, B_zcd_0)] := by kernel_rfl
 unfold LoopsOK
 rw [h]
 exact yc ⟨fun d h => (by have e : some (DL_zcd_0) = some d := h; cases e; exact l_zcd_0), yn⟩
theorem ok_zcd : FnOK prog E_zcd tt 45 D_zcd K_zcd Z_zcd O_zcd f45 C_zcd (fun x => T_zcd x.1.1.1 x.1.1.2.1 x.1.2.1 x.1.2.2.1) (fun r => ((r, ()), ())) := yk func45 o_zcd e_zcd
theorem fd_zcd : FDok prog (45, D_zcd) := fn_ok mixed (env_ok (yn)) tabOK ok_zcd
theorem e_zbz : ∀ x : D_zbz.T, ((acode E_zbz tt Z_zbz (orcOf O_zbz) C_zbz (entry A_zbz I_zbz x)).map (keepRet tt K_zbz)).ev = ((T_zbz x.1.1.1 x.1.1.2.1 x.1.2.1 x.1.2.2.1).map fun r => some ((((r, ()), ())) : K_zbz.T)).ev := fun _ => by kernel_rfl
theorem o_zbz : LoopsOK E_zbz tt Z_zbz O_zbz C_zbz := yz (by kernel_rfl)
theorem ok_zbz : FnOK prog E_zbz tt 32 D_zbz K_zbz Z_zbz O_zbz f32 C_zbz (fun x => T_zbz x.1.1.1 x.1.1.2.1 x.1.2.1 x.1.2.2.1) (fun r => ((r, ()), ())) := yk func32 o_zbz e_zbz
theorem fd_zbz : FDok prog (32, D_zbz) := fn_ok mixed (env_ok (yc ⟨fd_zcd, yn⟩)) tabOK ok_zbz
theorem e_zcb : ∀ x : D_zcb.T, ((acode E_zcb tt Z_zcb (orcOf O_zcb) C_zcb (entry A_zcb I_zcb x)).map (keepRet tt K_zcb)).ev = ((T_zcb x.1.1.1 x.1.1.2.1 x.1.2.1).map fun r => some ((((r, ()), ())) : K_zcb.T)).ev := fun _ => by kernel_rfl
noncomputable def B_zcb_0 : Code := ((loopsOf C_zcb).find? fun p => Nat.beq p.1 0).elim .skip (·.2)
theorem l_zcb_0 : (DL_zcb_0).OK E_zcb tt Z_zcb (orcOf O_zcb) B_zcb_0 := yl (fun _ => rfl) fun _ _ => by kernel_rfl
theorem o_zcb : LoopsOK E_zcb tt Z_zcb O_zcb C_zcb := by
 have h : loopsOf C_zcb = [(0, B_zcb_0)] := by kernel_rfl
 unfold LoopsOK
 rw [h]
 exact yc ⟨fun d h => (by have e : some (DL_zcb_0) = some d := h; cases e; exact l_zcb_0), yn⟩
theorem ok_zcb : FnOK prog E_zcb tt 17 D_zcb K_zcb Z_zcb O_zcb f17 C_zcb (fun x => T_zcb x.1.1.1 x.1.1.2.1 x.1.2.1) (fun r => ((r, ()), ())) := yk func17 o_zcb e_zcb
theorem fd_zcb : FDok prog (17, D_zcb) := fn_ok mixed (env_ok (yc ⟨fd_zbz, yn⟩)) tabOK ok_zcb
theorem e_zbx : ∀ x : D_zbx.T, ((acode E_zbx tt Z_zbx (orcOf O_zbx) C_zbx (entry A_zbx I_zbx x)).map (keepRet tt K_zbx)).ev = ((T_zbx x.1.1 x.1.2.1).map fun r => some (((((), ()), (r, ()))) : K_zbx.T)).ev := fun _ => by kernel_rfl
noncomputable def B_zbx_0 : Code := ((loopsOf C_zbx).find? fun p => Nat.beq p.1 0).elim .skip (·.2)
theorem l_zbx_0 : (DL_zbx_0).OK E_zbx tt Z_zbx (orcOf O_zbx) B_zbx_0 := yl (fun _ => rfl) fun _ _ => by kernel_rfl
theorem o_zbx : LoopsOK E_zbx tt Z_zbx O_zbx C_zbx := by
 have h : loopsOf C_zbx = [(0, B_zbx_0)] := by kernel_rfl
 unfold LoopsOK
 rw [h]
 exact yc ⟨fun d h => (by have e : some (DL_zbx_0) = some d := h; cases e; exact l_zbx_0), yn⟩
theorem ok_zbx : FnOK prog E_zbx tt 46 D_zbx K_zbx Z_zbx O_zbx f46 C_zbx (fun x => T_zbx x.1.1 x.1.2.1) (fun r => (((), ()), (r, ()))) := yk func46 o_zbx e_zbx
theorem fd_zbx : FDok prog (46, D_zbx) := fn_ok mixed (env_ok (yn)) tabOK ok_zbx
theorem e_zbw : ∀ x : D_zbw.T, ((acode E_zbw tt Z_zbw (orcOf O_zbw) C_zbw (entry A_zbw I_zbw x)).map (keepRet tt K_zbw)).ev = ((T_zbw x.1.1 x.1.2.1).map fun r => some ((((r, ()), ())) : K_zbw.T)).ev := fun _ => by kernel_rfl
noncomputable def B_zbw_0 : Code := ((loopsOf C_zbw).find? fun p => Nat.beq p.1 0).elim .skip (·.2)
theorem l_zbw_0 : (DL_zbw_0).OK E_zbw tt Z_zbw (orcOf O_zbw) B_zbw_0 := yl (fun _ => rfl) fun _ _ => by kernel_rfl
theorem o_zbw : LoopsOK E_zbw tt Z_zbw O_zbw C_zbw := by
 have h : loopsOf C_zbw = [(0, B_zbw_0)] := by kernel_rfl
 unfold LoopsOK
 rw [h]
 exact yc ⟨fun d h => (by have e : some (DL_zbw_0) = some d := h; cases e; exact l_zbw_0), yn⟩
theorem ok_zbw : FnOK prog E_zbw tt 47 D_zbw K_zbw Z_zbw O_zbw f47 C_zbw (fun x => T_zbw x.1.1 x.1.2.1) (fun r => ((r, ()), ())) := yk func47 o_zbw e_zbw
theorem fd_zbw : FDok prog (47, D_zbw) := fn_ok mixed (env_ok (yn)) tabOK ok_zbw
theorem e_zcc : ∀ x : D_zcc.T, ((acode E_zcc tt Z_zcc (orcOf O_zcc) C_zcc (entry A_zcc I_zcc x)).map (keepRet tt K_zcc)).ev = ((T_zcc x.1.1).map fun r => some ((((r, ()), ())) : K_zcc.T)).ev := fun _ => by kernel_rfl
noncomputable def B_zcc_2 : Code := ((loopsOf C_zcc).find? fun p => Nat.beq p.1 2).elim .skip (·.2)
theorem l_zcc_2 : (DL_zcc_2).OK E_zcc tt Z_zcc (orcOf O_zcc) B_zcc_2 := yl (fun _ => rfl) fun _ _ => by kernel_rfl
noncomputable def B_zcc_0 : Code := ((loopsOf C_zcc).find? fun p => Nat.beq p.1 0).elim .skip (·.2)
theorem l_zcc_0 : (DL_zcc_0).OK E_zcc tt Z_zcc (orcOf O_zcc) B_zcc_0 := yl (fun _ => rfl) fun _ _ => by kernel_rfl
theorem o_zcc : LoopsOK E_zcc tt Z_zcc O_zcc C_zcc := by
 have h : loopsOf C_zcc = [(0, B_zcc_0), (2, B_zcc_2)] := by kernel_rfl
 unfold LoopsOK
 rw [h]
 exact yc ⟨fun d h => (by have e : some (DL_zcc_0) = some d := h; cases e; exact l_zcc_0), yc ⟨fun d h => (by have e : some (DL_zcc_2) = some d := h; cases e; exact l_zcc_2), yn⟩⟩
theorem ok_zcc : FnOK prog E_zcc tt 33 D_zcc K_zcc Z_zcc O_zcc f33 C_zcc (fun x => T_zcc x.1.1) (fun r => ((r, ()), ())) := yk func33 o_zcc e_zcc
theorem fd_zcc : FDok prog (33, D_zcc) := fn_ok mixed (env_ok (yc ⟨fd_zbx, yc ⟨fd_zbw, yn⟩⟩)) tabOK ok_zcc
theorem e_zce : ∀ x : D_zce.T, ((acode E_zce tt Z_zce (orcOf O_zce) C_zce (entry A_zce I_zce x)).map (keepRet tt K_zce)).ev = ((T_zce x.1.1.1 x.1.1.2.1 x.1.2.1).map fun r => some ((((r, ()), ())) : K_zce.T)).ev := fun _ => by kernel_rfl
noncomputable def B_zce_0 : Code := ((loopsOf C_zce).find? fun p => Nat.beq p.1 0).elim .skip (·.2)
theorem l_zce_0 : (DL_zce_0).OK E_zce tt Z_zce (orcOf O_zce) B_zce_0 := yl (fun _ => rfl) fun _ _ => by kernel_rfl
theorem o_zce : LoopsOK E_zce tt Z_zce O_zce C_zce := by
 have h : loopsOf C_zce = [(0, B_zce_0)] := by kernel_rfl
 unfold LoopsOK
 rw [h]
 exact yc ⟨fun d h => (by have e : some (DL_zce_0) = some d := h; cases e; exact l_zce_0), yn⟩
theorem ok_zce : FnOK prog E_zce tt 18 D_zce K_zce Z_zce O_zce f18 C_zce (fun x => T_zce x.1.1.1 x.1.1.2.1 x.1.2.1) (fun r => ((r, ()), ())) := yk func18 o_zce e_zce
theorem fd_zce : FDok prog (18, D_zce) := fn_ok mixed (env_ok (yc ⟨fd_zcc, yc ⟨fd_zcb, yn⟩⟩)) tabOK ok_zce
theorem e_zbs : ∀ x : D_zbs.T, ((acode E_zbs tt Z_zbs (orcOf O_zbs) C_zbs (entry A_zbs I_zbs x)).map (keepRet tt K_zbs)).ev = ((T_zbs x.1.1.1 x.1.1.2.1 x.1.2.1.1 x.1.2.1.2.1).map fun r => some ((((r, ()), ())) : K_zbs.T)).ev := fun _ => by kernel_rfl
theorem o_zbs : LoopsOK E_zbs tt Z_zbs O_zbs C_zbs := yz (by kernel_rfl)
theorem ok_zbs : FnOK prog E_zbs tt 19 D_zbs K_zbs Z_zbs O_zbs f19 C_zbs (fun x => T_zbs x.1.1.1 x.1.1.2.1 x.1.2.1.1 x.1.2.1.2.1) (fun r => ((r, ()), ())) := yk func19 o_zbs e_zbs
theorem fd_zbs : FDok prog (19, D_zbs) := fn_ok mixed (env_ok (yn)) tabOK ok_zbs
theorem e_zbq : ∀ x : D_zbq.T, ((acode E_zbq tt Z_zbq (orcOf O_zbq) C_zbq (entry A_zbq I_zbq x)).map (keepRet tt K_zbq)).ev = ((T_zbq x.1.1.1 x.1.1.2.1 x.1.2.1).map fun r => some ((((r.1, ((r.2.1, (r.2.2.1, ())), (r.2.2.2, ()))), ())) : K_zbq.T)).ev := fun _ => by kernel_rfl
noncomputable def B_zbq_0 : Code := ((loopsOf C_zbq).find? fun p => Nat.beq p.1 0).elim .skip (·.2)
theorem l_zbq_0 : (DL_zbq_0).OK E_zbq tt Z_zbq (orcOf O_zbq) B_zbq_0 := yl (fun _ => rfl) fun _ _ => by kernel_rfl
theorem o_zbq : LoopsOK E_zbq tt Z_zbq O_zbq C_zbq := by
 have h : loopsOf C_zbq = [(0, B_zbq_0)] := by kernel_rfl
 unfold LoopsOK
 rw [h]
 exact yc ⟨fun d h => (by have e : some (DL_zbq_0) = some d := h; cases e; exact l_zbq_0), yn⟩
theorem ok_zbq : FnOK prog E_zbq tt 5 D_zbq K_zbq Z_zbq O_zbq f5 C_zbq (fun x => T_zbq x.1.1.1 x.1.1.2.1 x.1.2.1) (fun r => ((r.1, ((r.2.1, (r.2.2.1, ())), (r.2.2.2, ()))), ())) := yk func5 o_zbq e_zbq
theorem fd_zbq : FDok prog (5, D_zbq) := fn_ok mixed (env_ok (yc ⟨fd_zby, yc ⟨fd_zbr, yc ⟨fd_zbv, yc ⟨fd_zcb, yc ⟨fd_zce, yc ⟨fd_zbs, yn⟩⟩⟩⟩⟩⟩)) tabOK ok_zbq
theorem e_zt : ∀ x : D_zt.T, ((acode E_zt tt Z_zt (orcOf O_zt) C_zt (entry A_zt I_zt x)).map (keepRet tt K_zt)).ev = ((T_zt x.1.1 x.1.2.1 x.1.2.2.1).map fun r => some ((((r, ()), ())) : K_zt.T)).ev := fun _ => by kernel_rfl
theorem o_zt : LoopsOK E_zt tt Z_zt O_zt C_zt := yz (by kernel_rfl)
theorem ok_zt : FnOK prog E_zt tt 34 D_zt K_zt Z_zt O_zt f34 C_zt (fun x => T_zt x.1.1 x.1.2.1 x.1.2.2.1) (fun r => ((r, ()), ())) := yk func34 o_zt e_zt
theorem fd_zt : FDok prog (34, D_zt) := fn_ok mixed (env_ok (yn)) tabOK ok_zt
theorem e_zat : ∀ x : D_zat.T, ((acode E_zat tt Z_zat (orcOf O_zat) C_zat (entry A_zat I_zat x)).map (keepRet tt K_zat)).ev = ((T_zat x.1.1 x.1.2.1).map fun r => some ((((r, ()), ())) : K_zat.T)).ev := fun _ => by kernel_rfl
noncomputable def B_zat_0 : Code := ((loopsOf C_zat).find? fun p => Nat.beq p.1 0).elim .skip (·.2)
theorem l_zat_0 : (DL_zat_0).OK E_zat tt Z_zat (orcOf O_zat) B_zat_0 := yl (fun _ => rfl) fun _ _ => by kernel_rfl
theorem o_zat : LoopsOK E_zat tt Z_zat O_zat C_zat := by
 have h : loopsOf C_zat = [(0, B_zat_0)] := by kernel_rfl
 unfold LoopsOK
 rw [h]
 exact yc ⟨fun d h => (by have e : some (DL_zat_0) = some d := h; cases e; exact l_zat_0), yn⟩
theorem ok_zat : FnOK prog E_zat tt 59 D_zat K_zat Z_zat O_zat f59 C_zat (fun x => T_zat x.1.1 x.1.2.1) (fun r => ((r, ()), ())) := yk func59 o_zat e_zat
theorem fd_zat : FDok prog (59, D_zat) := fn_ok mixed (env_ok (yn)) tabOK ok_zat
theorem e_zaq : ∀ x : D_zaq.T, ((acode E_zaq tt Z_zaq (orcOf O_zaq) C_zaq (entry A_zaq I_zaq x)).map (keepRet tt K_zaq)).ev = ((T_zaq x.1.1 x.1.2.1).map fun r => some ((((r, ()), ())) : K_zaq.T)).ev := fun _ => by kernel_rfl
theorem o_zaq : LoopsOK E_zaq tt Z_zaq O_zaq C_zaq := yz (by kernel_rfl)
theorem ok_zaq : FnOK prog E_zaq tt 48 D_zaq K_zaq Z_zaq O_zaq f48 C_zaq (fun x => T_zaq x.1.1 x.1.2.1) (fun r => ((r, ()), ())) := yk func48 o_zaq e_zaq
theorem fd_zaq : FDok prog (48, D_zaq) := fn_ok mixed (env_ok (yc ⟨fd_zat, yn⟩)) tabOK ok_zaq
theorem e_zq : ∀ x : D_zq.T, ((acode E_zq tt Z_zq (orcOf O_zq) C_zq (entry A_zq I_zq x)).map (keepRet tt K_zq)).ev = ((T_zq x.1.1 x.1.2.1.1 x.1.2.2.1.1).map fun r => some ((((r, ()), ())) : K_zq.T)).ev := fun _ => by kernel_rfl
theorem o_zq : LoopsOK E_zq tt Z_zq O_zq C_zq := yz (by kernel_rfl)
theorem ok_zq : FnOK prog E_zq tt 49 D_zq K_zq Z_zq O_zq f49 C_zq (fun x => T_zq x.1.1 x.1.2.1.1 x.1.2.2.1.1) (fun r => ((r, ()), ())) := yk func49 o_zq e_zq
theorem fd_zq : FDok prog (49, D_zq) := fn_ok mixed (env_ok (yc ⟨fd_zt, yn⟩)) tabOK ok_zq
theorem e_zp : ∀ x : D_zp.T, ((acode E_zp tt Z_zp (orcOf O_zp) C_zp (entry A_zp I_zp x)).map (keepRet tt K_zp)).ev = ((T_zp x.1.1 x.1.2.1 x.1.2.2.1).map fun r => some ((((r, ()), ())) : K_zp.T)).ev := fun _ => by kernel_rfl
theorem o_zp : LoopsOK E_zp tt Z_zp O_zp C_zp := yz (by kernel_rfl)
theorem ok_zp : FnOK prog E_zp tt 35 D_zp K_zp Z_zp O_zp f35 C_zp (fun x => T_zp x.1.1 x.1.2.1 x.1.2.2.1) (fun r => ((r, ()), ())) := yk func35 o_zp e_zp
theorem fd_zp : FDok prog (35, D_zp) := fn_ok mixed (env_ok (yc ⟨fd_zaq, yc ⟨fd_zaq, yc ⟨fd_zq, yn⟩⟩⟩)) tabOK ok_zp
theorem e_zas : ∀ x : D_zas.T, ((acode E_zas tt Z_zas (orcOf O_zas) C_zas (entry A_zas I_zas x)).map (keepRet tt K_zas)).ev = ((T_zas x.1.1 x.1.2.1).map fun r => some ((((r, ()), ())) : K_zas.T)).ev := fun _ => by kernel_rfl
noncomputable def B_zas_0 : Code := ((loopsOf C_zas).find? fun p => Nat.beq p.1 0).elim .skip (·.2)
theorem l_zas_0 : (DL_zas_0).OK E_zas tt Z_zas (orcOf O_zas) B_zas_0 := yl (fun _ => rfl) fun _ _ => by kernel_rfl
theorem o_zas : LoopsOK E_zas tt Z_zas O_zas C_zas := by
 have h : loopsOf C_zas = [(0, B_zas_0)] := by kernel_rfl
 unfold LoopsOK
 rw [h]
 exact yc ⟨fun d h => (by have e : some (DL_zas_0) = some d := h; cases e; exact l_zas_0), yn⟩
theorem ok_zas : FnOK prog E_zas tt 50 D_zas K_zas Z_zas O_zas f50 C_zas (fun x => T_zas x.1.1 x.1.2.1) (fun r => ((r, ()), ())) := yk func50 o_zas e_zas
theorem fd_zas : FDok prog (50, D_zas) := fn_ok mixed (env_ok (yn)) tabOK ok_zas
theorem e_zap : ∀ x : D_zap.T, ((acode E_zap tt Z_zap (orcOf O_zap) C_zap (entry A_zap I_zap x)).map (keepRet tt K_zap)).ev = ((T_zap x.1.1 x.1.2.1).map fun r => some ((((r, ()), ())) : K_zap.T)).ev := fun _ => by kernel_rfl
theorem o_zap : LoopsOK E_zap tt Z_zap O_zap C_zap := yz (by kernel_rfl)
theorem ok_zap : FnOK prog E_zap tt 36 D_zap K_zap Z_zap O_zap f36 C_zap (fun x => T_zap x.1.1 x.1.2.1) (fun r => ((r, ()), ())) := yk func36 o_zap e_zap
theorem fd_zap : FDok prog (36, D_zap) := fn_ok mixed (env_ok (yc ⟨fd_zas, yn⟩)) tabOK ok_zap
theorem e_zm : ∀ x : D_zm.T, ((acode E_zm tt Z_zm (orcOf O_zm) C_zm (entry A_zm I_zm x)).map (keepRet tt K_zm)).ev = ((T_zm x.1.1 x.1.2.1.1 x.1.2.1.2.1).map fun r => some ((((r, ()), ())) : K_zm.T)).ev := fun _ => by kernel_rfl
theorem o_zm : LoopsOK E_zm tt Z_zm O_zm C_zm := yz (by kernel_rfl)
theorem ok_zm : FnOK prog E_zm tt 37 D_zm K_zm Z_zm O_zm f37 C_zm (fun x => T_zm x.1.1 x.1.2.1.1 x.1.2.1.2.1) (fun r => ((r, ()), ())) := yk func37 o_zm e_zm
theorem fd_zm : FDok prog (37, D_zm) := fn_ok mixed (env_ok (yc ⟨fd_zp, yn⟩)) tabOK ok_zm
theorem e_zl : ∀ x : D_zl.T, ((acode E_zl tt Z_zl (orcOf O_zl) C_zl (entry A_zl I_zl x)).map (keepRet tt K_zl)).ev = ((T_zl x.1.1.1 x.1.1.2.1).map fun r => some ((((r, ()), ())) : K_zl.T)).ev := fun _ => by kernel_rfl
theorem o_zl : LoopsOK E_zl tt Z_zl O_zl C_zl := yz (by kernel_rfl)
theorem ok_zl : FnOK prog E_zl tt 21 D_zl K_zl Z_zl O_zl f21 C_zl (fun x => T_zl x.1.1.1 x.1.1.2.1) (fun r => ((r, ()), ())) := yk func21 o_zl e_zl
theorem fd_zl : FDok prog (21, D_zl) := fn_ok mixed (env_ok (yc ⟨fd_zt, yc ⟨fd_zp, yc ⟨fd_zap, yc ⟨fd_zap, yc ⟨fd_zm, yn⟩⟩⟩⟩⟩)) tabOK ok_zl
theorem fd_zax : FDok prog (27, D_zax) := hand_values
theorem fd_zan : FDok prog (42, D_zan) := hand_collect
theorem e_zam : ∀ x : D_zam.T, ((acode E_zam tt Z_zam (orcOf O_zam) C_zam (entry A_zam I_zam x)).map (keepRet tt K_zam)).ev = ((T_zam x.1.1).map fun r => some ((((r, ()), ())) : K_zam.T)).ev := fun _ => by kernel_rfl
theorem o_zam : LoopsOK E_zam tt Z_zam O_zam C_zam := yz (by kernel_rfl)
theorem ok_zam : FnOK prog E_zam tt 74 D_zam K_zam Z_zam O_zam f74 C_zam (fun x => T_zam x.1.1) (fun r => ((r, ()), ())) := yk func74 o_zam e_zam
theorem fd_zam : FDok prog (74, D_zam) := fn_ok mixed (env_ok (yn)) tabOK ok_zam
theorem e_zal : ∀ x : D_zal.T, ((acode E_zal tt Z_zal (orcOf O_zal) C_zal (entry A_zal I_zal x)).map (keepRet tt K_zal)).ev = ((T_zal x.1.1).map fun r => some ((((r, ()), ())) : K_zal.T)).ev := fun _ => by kernel_rfl
theorem o_zal : LoopsOK E_zal tt Z_zal O_zal C_zal := yz (by kernel_rfl)
theorem ok_zal : FnOK prog E_zal tt 58 D_zal K_zal Z_zal O_zal f58 C_zal (fun x => T_zal x.1.1) (fun r => ((r, ()), ())) := yk func58 o_zal e_zal
theorem fd_zal : FDok prog (58, D_zal) := fn_ok mixed (env_ok (yc ⟨fd_zam, yn⟩)) tabOK ok_zal
theorem e_zd : ∀ x : D_zd.T, ((acode E_zd tt Z_zd (orcOf O_zd) C_zd (entry A_zd I_zd x)).map (keepRet tt K_zd)).ev = ((T_zd x.1.1).map fun r => some ((((r, ()), ())) : K_zd.T)).ev := fun _ => by kernel_rfl
theorem o_zd : LoopsOK E_zd tt Z_zd O_zd C_zd := yz (by kernel_rfl)
theorem ok_zd : FnOK prog E_zd tt 85 D_zd K_zd Z_zd O_zd f85 C_zd (fun x => T_zd x.1.1) (fun r => ((r, ()), ())) := yk func85 o_zd e_zd
theorem fd_zd : FDok prog (85, D_zd) := fn_ok mixed (env_ok (yn)) tabOK ok_zd
theorem e_zb : ∀ x : D_zb.T, ((acode E_zb tt Z_zb (orcOf O_zb) C_zb (entry A_zb I_zb x)).map (keepRet tt K_zb)).ev = ((T_zb x.1.1 x.1.2.1).map fun r => some ((((r, ()), ())) : K_zb.T)).ev := fun _ => by kernel_rfl
theorem o_zb : LoopsOK E_zb tt Z_zb O_zb C_zb := yz (by kernel_rfl)
theorem ok_zb : FnOK prog E_zb tt 70 D_zb K_zb Z_zb O_zb f70 C_zb (fun x => T_zb x.1.1 x.1.2.1) (fun r => ((r, ()), ())) := yk func70 o_zb e_zb
theorem fd_zb : FDok prog (70, D_zb) := fn_ok mixed (env_ok (yc ⟨fd_zd, yn⟩)) tabOK ok_zb
theorem e_zbd : ∀ x : D_zbd.T, ((acode E_zbd tt Z_zbd (orcOf O_zbd) C_zbd (entry A_zbd I_zbd x)).map (keepRet tt K_zbd)).ev = ((T_zbd x.1.2.1 x.1.2.2.1 x.2.1).map fun r => some ((((), (r, ()))) : K_zbd.T)).ev := fun _ => by kernel_rfl
noncomputable def B_zbd_2 : Code := ((loopsOf C_zbd).find? fun p => Nat.beq p.1 2).elim .skip (·.2)
theorem l_zbd_2 : (DL_zbd_2).OK E_zbd tt Z_zbd (orcOf O_zbd) B_zbd_2 := yl (fun _ => rfl) fun _ _ => by kernel_rfl
noncomputable def B_zbd_0 : Code := ((loopsOf C_zbd).find? fun p => Nat.beq p.1 0).elim .skip (·.2)
theorem l_zbd_0 : (DL_zbd_0).OK E_zbd tt Z_zbd (orcOf O_zbd) B_zbd_0 := yl (fun _ => rfl) fun _ _ => by kernel_rfl
theorem o_zbd : LoopsOK E_zbd tt Z_zbd O_zbd C_zbd := by
 have h : loopsOf C_zbd = [(0, B_zbd_0), (2, B_zbd_2)] := by kernel_rfl
 unfold LoopsOK
 rw [h]
 exact yc ⟨fun d h => (by have e : some (DL_zbd_0) = some d := h; cases e; exact l_zbd_0), yc ⟨fun d h => (by have e : some (DL_zbd_2) = some d := h; cases e; exact l_zbd_2), yn⟩⟩
theorem ok_zbd : FnOK prog E_zbd tt 64 D_zbd K_zbd Z_zbd O_zbd f64 C_zbd (fun x => T_zbd x.1.2.1 x.1.2.2.1 x.2.1) (fun r => ((), (r, ()))) := yk func64 o_zbd e_zbd
theorem fd_zbd : FDok prog (64, D_zbd) := fn_ok mixed (env_ok (yc ⟨fd_zb, yn⟩)) tabOK ok_zbd
theorem e_zbi : ∀ x : D_zbi.T, ((acode E_zbi tt Z_zbi (orcOf O_zbi) C_zbi (entry A_zbi I_zbi x)).map (keepRet tt K_zbi)).ev = ((T_zbi x.1.1).map fun r => some ((((r, ()), ())) : K_zbi.T)).ev := fun _ => by kernel_rfl
theorem o_zbi : LoopsOK E_zbi tt Z_zbi O_zbi C_zbi := yz (by kernel_rfl)
theorem ok_zbi : FnOK prog E_zbi tt 81 D_zbi K_zbi Z_zbi O_zbi f81 C_zbi (fun x => T_zbi x.1.1) (fun r => ((r, ()), ())) := yk func81 o_zbi e_zbi
theorem fd_zbi : FDok prog (81, D_zbi) := fn_ok mixed (env_ok (yc ⟨fd_zal, yn⟩)) tabOK ok_zbi
theorem e_zbp : ∀ x : D_zbp.T, ((acode E_zbp tt Z_zbp (orcOf O_zbp) C_zbp (entry A_zbp I_zbp x)).map (keepRet tt K_zbp)).ev = ((T_zbp x.2.1.1).map fun r => some ((((r.1, ()), ((r.2, ()), ()))) : K_zbp.T)).ev := fun _ => by kernel_rfl
theorem o_zbp : LoopsOK E_zbp tt Z_zbp O_zbp C_zbp := yz (by kernel_rfl)
theorem ok_zbp : FnOK prog E_zbp tt 82 D_zbp K_zbp Z_zbp O_zbp f82 C_zbp (fun x => T_zbp x.2.1.1) (fun r => ((r.1, ()), ((r.2, ()), ()))) := yk func82 o_zbp e_zbp
theorem fd_zbp : FDok prog (82, D_zbp) := fn_ok mixed (env_ok (yn)) tabOK ok_zbp
theorem e_zaz : ∀ x : D_zaz.T, ((acode E_zaz tt Z_zaz (orcOf O_zaz) C_zaz (entry A_zaz I_zaz x)).map (keepRet tt K_zaz)).ev = ((T_zaz x.1.2.1 x.1.2.2.1 x.2.1).map fun r => some ((((), (r, ()))) : K_zaz.T)).ev := fun _ => by kernel_rfl
noncomputable def B_zaz_0 : Code := ((loopsOf C_zaz).find? fun p => Nat.beq p.1 0).elim .skip (·.2)
theorem l_zaz_0 : (DL_zaz_0).OK E_zaz tt Z_zaz (orcOf O_zaz) B_zaz_0 := yl (fun _ => rfl) fun _ _ => by kernel_rfl
theorem o_zaz : LoopsOK E_zaz tt Z_zaz O_zaz C_zaz := by
 have h : loopsOf C_zaz = [(0, B_zaz_0)] := by kernel_rfl
 unfold LoopsOK
 rw [h]
 exact yc ⟨fun d h => (by have e : some (DL_zaz_0) = some d := h; cases e; exact l_zaz_0), yn⟩
theorem ok_zaz : FnOK prog E_zaz tt 66 D_zaz K_zaz Z_zaz O_zaz f66 C_zaz (fun x => T_zaz x.1.2.1 x.1.2.2.1 x.2.1) (fun r => ((), (r, ()))) := yk func66 o_zaz e_zaz
theorem fd_zaz : FDok prog (66, D_zaz) := fn_ok mixed (env_ok (yc ⟨fd_zbi, yc ⟨fd_zbp, yn⟩⟩)) tabOK ok_zaz
theorem e_zbk : ∀ x : D_zbk.T, ((acode E_zbk tt Z_zbk (orcOf O_zbk) C_zbk (entry A_zbk I_zbk x)).map (keepRet tt K_zbk)).ev = ((T_zbk x.1.1 x.1.2.1 x.1.2.2.1 x.2.1.1).map fun r => some ((((r.1, (r.2.1, ())), ((r.2.2, ()), ()))) : K_zbk.T)).ev := fun _ => by kernel_rfl
theorem o_zbk : LoopsOK E_zbk tt Z_zbk O_zbk C_zbk := yz (by kernel_rfl)
theorem ok_zbk : FnOK prog E_zbk tt 94 D_zbk K_zbk Z_zbk O_zbk f94 C_zbk (fun x => T_zbk x.1.1 x.1.2.1 x.1.2.2.1 x.2.1.1) (fun r => ((r.1, (r.2.1, ())), ((r.2.2, ()), ()))) := yk func94 o_zbk e_zbk
theorem fd_zbk : FDok prog (94, D_zbk) := fn_ok mixed (env_ok (yc ⟨fd_zb, yn⟩)) tabOK ok_zbk
theorem e_zbh : ∀ x : D_zbh.T, ((acode E_zbh tt Z_zbh (orcOf O_zbh) C_zbh (entry A_zbh I_zbh x)).map (keepRet tt K_zbh)).ev = ((T_zbh x.1.1 x.1.2.1 x.1.2.2.1 x.1.2.2.2.1 x.2.1.1).map fun r => some ((((r.1, ()), ((r.2, ()), ()))) : K_zbh.T)).ev := fun _ => by kernel_rfl
theorem o_zbh : LoopsOK E_zbh tt Z_zbh O_zbh C_zbh := yz (by kernel_rfl)
theorem ok_zbh : FnOK prog E_zbh tt 84 D_zbh K_zbh Z_zbh O_zbh f84 C_zbh (fun x => T_zbh x.1.1 x.1.2.1 x.1.2.2.1 x.1.2.2.2.1 x.2.1.1) (fun r => ((r.1, ()), ((r.2, ()), ()))) := yk func84 o_zbh e_zbh
theorem fd_zbh : FDok prog (84, D_zbh) := fn_ok mixed (env_ok (yc ⟨fd_zbk, yn⟩)) tabOK ok_zbh
theorem e_zbf : ∀ x : D_zbf.T, ((acode E_zbf tt Z_zbf (orcOf O_zbf) C_zbf (entry A_zbf I_zbf x)).map (keepRet tt K_zbf)).ev = ((T_zbf x.1.1 x.1.2.1 x.2.1.1).map fun r => some ((((r.1, ()), ((r.2, ()), ()))) : K_zbf.T)).ev := fun _ => by kernel_rfl
theorem o_zbf : LoopsOK E_zbf tt Z_zbf O_zbf C_zbf := yz (by kernel_rfl)
theorem ok_zbf : FnOK prog E_zbf tt 83 D_zbf K_zbf Z_zbf O_zbf f83 C_zbf (fun x => T_zbf x.1.1 x.1.2.1 x.2.1.1) (fun r => ((r.1, ()), ((r.2, ()), ()))) := yk func83 o_zbf e_zbf
theorem fd_zbf : FDok prog (83, D_zbf) := fn_ok mixed (env_ok (yc ⟨fd_zbh, yn⟩)) tabOK ok_zbf
theorem e_zbb : ∀ x : D_zbb.T, ((acode E_zbb tt Z_zbb (orcOf O_zbb) C_zbb (entry A_zbb I_zbb x)).map (keepRet tt K_zbb)).ev = ((T_zbb x.1.1 x.1.2.1 x.1.2.2.1).map fun r => some ((((r.1, (r.2, ())), ())) : K_zbb.T)).ev := fun _ => by kernel_rfl
theorem o_zbb : LoopsOK E_zbb tt Z_zbb O_zbb C_zbb := yz (by kernel_rfl)
theorem ok_zbb : FnOK prog E_zbb tt 67 D_zbb K_zbb Z_zbb O_zbb f67 C_zbb (fun x => T_zbb x.1.1 x.1.2.1 x.1.2.2.1) (fun r => ((r.1, (r.2, ())), ())) := yk func67 o_zbb e_zbb
theorem fd_zbb : FDok prog (67, D_zbb) := fn_ok mixed (env_ok (yc ⟨fd_zbf, yc ⟨fd_zbh, yn⟩⟩)) tabOK ok_zbb
theorem e_zbm : ∀ x : D_zbm.T, ((acode E_zbm tt Z_zbm (orcOf O_zbm) C_zbm (entry A_zbm I_zbm x)).map (keepRet tt K_zbm)).ev = ((T_zbm x.1.2.1 x.1.2.2.1 x.1.2.2.2.1 x.2.1).map fun r => some ((((r.1, (r.2.1, ())), (r.2.2, ()))) : K_zbm.T)).ev := fun _ => by kernel_rfl
noncomputable def B_zbm_0 : Code := ((loopsOf C_zbm).find? fun p => Nat.beq p.1 0).elim .skip (·.2)
theorem l_zbm_0 : (DL_zbm_0).OK E_zbm tt Z_zbm (orcOf O_zbm) B_zbm_0 := yl (fun _ => rfl) fun _ _ => by kernel_rfl
noncomputable def B_zbm_2 : Code := ((loopsOf C_zbm).find? fun p => Nat.beq p.1 2).elim .skip (·.2)
theorem l_zbm_2 : (DL_zbm_2).OK E_zbm tt Z_zbm (orcOf O_zbm) B_zbm_2 := yl (fun _ => rfl) fun _ _ => by kernel_rfl
noncomputable def B_zbm_6 : Code := ((loopsOf C_zbm).find? fun p => Nat.beq p.1 6).elim .skip (·.2)
theorem l_zbm_6 : (DL_zbm_6).OK E_zbm tt Z_zbm (orcOf O_zbm) B_zbm_6 := yl (fun _ => rfl) fun _ _ => by kernel_rfl
noncomputable def B_zbm_8 : Code := ((loopsOf C_zbm).find? fun p => Nat.beq p.1 8).elim .skip (·.2)
theorem l_zbm_8 : (DL_zbm_8).OK E_zbm tt Z_zbm (orcOf O_zbm) B_zbm_8 := yl (fun _ => rfl) fun _ _ => by kernel_rfl
noncomputable def B_zbm_4 : Code := ((loopsOf C_zbm).find? fun p => Nat.beq p.1 4).elim .skip (·.2)
theorem l_zbm_4 : (DL_zbm_4).OK E_zbm tt Z_zbm (orcOf O_zbm) B_zbm_4 := yl (fun _ => rfl) fun _ _ => by kernel_rfl
theorem o_zbm : LoopsOK E_zbm tt Z_zbm O_zbm C_zbm := by
 have h : loopsOf C_zbm = [(0, B_zbm_0), (2, B_zbm_2), (4, B_zbm_4), (6, B_zbm_6), (8, B_zbm_8)] := by kernel_rfl
 unfold LoopsOK
 rw [h]
 exact yc ⟨fun d h => (by have e : some (DL_zbm_0) = some d := h; cases e; exact l_zbm_0), yc ⟨fun d h => (by have e : some (DL_zbm_2) = some d := h; cases e; exact l_zbm_2), yc ⟨fun d h => (by have e : some (DL_zbm_4) = some d := h; cases e; exact l_zbm_4), yc ⟨fun d h => (by have e : some (DL_zbm_6) = some d := h; cases e; exact l_zbm_6), yc ⟨fun d h => (by have e : some (DL_zbm_8) = some d := h; cases e; exact l_zbm_8), yn⟩⟩⟩⟩⟩
theorem ok_zbm : FnOK prog E_zbm tt 72 D_zbm K_zbm Z_zbm O_zbm f72 C_zbm (fun x => T_zbm x.1.2.1 x.1.2.2.1 x.1.2.2.2.1 x.2.1) (fun r => ((r.1, (r.2.1, ())), (r.2.2, ()))) := yk func72 o_zbm e_zbm
theorem fd_zbm : FDok prog (72, D_zbm) := fn_ok mixed (env_ok (yc ⟨fd_zb, yn⟩)) tabOK ok_zbm
theorem e_zbo (rec_ : (Int) → (Int) → (Int) → Y1 → Option Y1) : ∀ x : (Dr_zbo rec_).T, ((acode (E_zbo rec_) tt Z_zbo (orcOf (O_zbo rec_)) C_zbo (entry A_zbo I_zbo x)).map (keepRet tt K_zbo)).ev = ((T_zbo rec_ x.1.2.1 x.1.2.2.1 x.1.2.2.2.1 x.2.1).map fun r => some ((((), (r, ()))) : K_zbo.T)).ev := fun _ => by kernel_rfl
noncomputable def B_zbo_0 : Code := ((loopsOf C_zbo).find? fun p => Nat.beq p.1 0).elim .skip (·.2)
theorem l_zbo_0 (rec_ : (Int) → (Int) → (Int) → Y1 → Option Y1) : (DL_zbo_0 rec_).OK (E_zbo rec_) tt Z_zbo (orcOf (O_zbo rec_)) B_zbo_0 := yl (fun _ => rfl) fun _ _ => by kernel_rfl
theorem o_zbo (rec_ : (Int) → (Int) → (Int) → Y1 → Option Y1) : LoopsOK (E_zbo rec_) tt Z_zbo (O_zbo rec_) C_zbo := by
 have h : loopsOf C_zbo = [(0, B_zbo_0)] := by kernel_rfl
 unfold LoopsOK
 rw [h]
 exact yc ⟨fun d h => (by have e : some (DL_zbo_0 rec_) = some d := h; cases e; exact l_zbo_0 rec_), yn⟩
theorem ok_zbo (n : Nat) : FnOK prog (E_zbo (F_zbo n)) tt 57 (D_zbo (n + 1)) K_zbo Z_zbo (O_zbo (F_zbo n)) f57 C_zbo (fun x => T_zbo (F_zbo n) x.1.2.1 x.1.2.2.1 x.1.2.2.2.1 x.2.1) (fun r => ((), (r, ()))) where
 at_ := func57
 name := by kernel_rfl
 body := by kernel_rfl
 res := by kernel_rfl
 ok := by kernel_rfl
 arity := fun _ => Nat.le_of_ble_eq_true (by kernel_rfl)
 pin := fun _ => by kernel_rfl
 chk := by kernel_rfl
 loops := o_zbo (F_zbo n)
 run := e_zbo (F_zbo n)
 F := fun _ => rfl
 emb := fun _ => rfl
theorem fd_zbo : ∀ n : Nat, FDok prog (57, D_zbo n)
 | 0 => fun _ _ h => nomatch h
 | n + 1 => fn_ok mixed (env_ok (yc ⟨fd_zbd, yc ⟨fd_zaz, yc ⟨fd_zbb, yc ⟨fd_zb, yc ⟨fd_zbm, yc ⟨fd_zbo n, yn⟩⟩⟩⟩⟩⟩)) tabOK (ok_zbo n)
theorem e_zav : ∀ x : D_zav.T, ((acode E_zav tt Z_zav (orcOf O_zav) C_zav (entry A_zav I_zav x)).map (keepRet tt K_zav)).ev = ((T_zav x.2.1).map fun r => some ((((), (r, ()))) : K_zav.T)).ev := fun _ => by kernel_rfl
theorem o_zav : LoopsOK E_zav tt Z_zav O_zav C_zav := yz (by kernel_rfl)
theorem ok_zav : FnOK prog E_zav tt 43 D_zav K_zav Z_zav O_zav f43 C_zav (fun x => T_zav x.2.1) (fun r => ((), (r, ()))) := yk func43 o_zav e_zav
theorem fd_zav : FDok prog (43, D_zav) := fn_ok mixed (env_ok (yc ⟨fd_zal, yc ⟨fd_zbo 1000000, yn⟩⟩)) tabOK ok_zav
theorem e_zaw : ∀ x : D_zaw.T, ((acode E_zaw tt Z_zaw (orcOf O_zaw) C_zaw (entry A_zaw I_zaw x)).map (keepRet tt K_zaw)).ev = ((T_zaw x.1.1).map fun r => some (((((), ()), (r, ()))) : K_zaw.T)).ev := fun _ => by kernel_rfl
theorem o_zaw : LoopsOK E_zaw tt Z_zaw O_zaw C_zaw := yz (by kernel_rfl)
theorem ok_zaw : FnOK prog E_zaw tt 26 D_zaw K_zaw Z_zaw O_zaw f26 C_zaw (fun x => T_zaw x.1.1) (fun r => (((), ()), (r, ()))) := yk func26 o_zaw e_zaw
theorem fd_zaw : FDok prog (26, D_zaw) := fn_ok mixed (env_ok (yc ⟨fd_zan, yc ⟨fd_zav, yn⟩⟩)) tabOK ok_zaw
theorem e_zw : ∀ x : D_zw.T, ((acode E_zw tt Z_zw (orcOf O_zw) C_zw (entry A_zw I_zw x)).map (keepRet tt K_zw)).ev = ((T_zw x.1.1 x.1.2.1).map fun r => some ((((r, ()), ())) : K_zw.T)).ev := fun _ => by kernel_rfl
noncomputable def B_zw_0 : Code := ((loopsOf C_zw).find? fun p => Nat.beq p.1 0).elim .skip (·.2)
theorem l_zw_0 : (DL_zw_0).OK E_zw tt Z_zw (orcOf O_zw) B_zw_0 := yl (fun _ => rfl) fun _ _ => by kernel_rfl
theorem o_zw : LoopsOK E_zw tt Z_zw O_zw C_zw := by
 have h : loopsOf C_zw = [(0, B_zw_0)] := by kernel_rfl
 unfold LoopsOK
 rw [h]
 exact yc ⟨fun d h => (by have e : some (DL_zw_0) = some d := h; cases e; exact l_zw_0), yn⟩
theorem ok_zw : FnOK prog E_zw tt 38 D_zw K_zw Z_zw O_zw f38 C_zw (fun x => T_zw x.1.1 x.1.2.1) (fun r => ((r, ()), ())) := yk func38 o_zw e_zw
theorem fd_zw : FDok prog (38, D_zw) := fn_ok mixed (env_ok (yc ⟨fd_zt, yn⟩)) tabOK ok_zw
theorem e_zv : ∀ x : D_zv.T, ((acode E_zv tt Z_zv (orcOf O_zv) C_zv (entry A_zv I_zv x)).map (keepRet tt K_zv)).ev = ((T_zv x.1.1 x.1.2.1).map fun r => some ((((r, ()), ())) : K_zv.T)).ev := fun _ => by kernel_rfl
theorem o_zv : LoopsOK E_zv tt Z_zv O_zv C_zv := yz (by kernel_rfl)
theorem ok_zv : FnOK prog E_zv tt 22 D_zv K_zv Z_zv O_zv f22 C_zv (fun x => T_zv x.1.1 x.1.2.1) (fun r => ((r, ()), ())) := yk func22 o_zv e_zv
theorem fd_zv : FDok prog (22, D_zv) := fn_ok mixed (env_ok (yc ⟨fd_zax, yc ⟨fd_zaw, yc ⟨fd_zw, yn⟩⟩⟩)) tabOK ok_zv
theorem e_zr : ∀ x : D_zr.T, ((acode E_zr tt Z_zr (orcOf O_zr) C_zr (entry A_zr I_zr x)).map (keepRet tt K_zr)).ev = ((T_zr x.1.1 x.1.2.1).map fun r => some ((((r, ()), ())) : K_zr.T)).ev := fun _ => by kernel_rfl
theorem o_zr : LoopsOK E_zr tt Z_zr O_zr C_zr := yz (by kernel_rfl)
theorem ok_zr : FnOK prog E_zr tt 75 D_zr K_zr Z_zr O_zr f75 C_zr (fun x => T_zr x.1.1 x.1.2.1) (fun r => ((r, ()), ())) := yk func75 o_zr e_zr
theorem fd_zr : FDok prog (75, D_zr) := fn_ok mixed (env_ok (yn)) tabOK ok_zr
theorem e_zs : ∀ x : D_zs.T, ((acode E_zs tt Z_zs (orcOf O_zs) C_zs (entry A_zs I_zs x)).map (keepRet tt K_zs)).ev = ((T_zs x.1.1).map fun r => some (((((), ()), (r, ()))) : K_zs.T)).ev := fun _ => by kernel_rfl
noncomputable def B_zs_0 : Code := ((loopsOf C_zs).find? fun p => Nat.beq p.1 0).elim .skip (·.2)
theorem l_zs_0 : (DL_zs_0).OK E_zs tt Z_zs (orcOf O_zs) B_zs_0 := yl (fun _ => rfl) fun _ _ => by kernel_rfl
theorem o_zs : LoopsOK E_zs tt Z_zs O_zs C_zs := by
 have h : loopsOf C_zs = [(0, B_zs_0)] := by kernel_rfl
 unfold LoopsOK
 rw [h]
 exact yc ⟨fun d h => (by have e : some (DL_zs_0) = some d := h; cases e; exact l_zs_0), yn⟩
theorem ok_zs : FnOK prog E_zs tt 60 D_zs K_zs Z_zs O_zs f60 C_zs (fun x => T_zs x.1.1) (fun r => (((), ()), (r, ()))) := yk func60 o_zs e_zs
theorem fd_zs : FDok prog (60, D_zs) := fn_ok mixed (env_ok (yc ⟨fd_zr, yn⟩)) tabOK ok_zs
theorem e_zbc : ∀ x : D_zbc.T, ((acode E_zbc tt Z_zbc (orcOf O_zbc) C_zbc (entry A_zbc I_zbc x)).map (keepRet tt K_zbc)).ev = ((T_zbc x.1.2.1 x.1.2.2.1 x.1.2.2.2.1 x.2.1).map fun r => some ((((), (r, ()))) : K_zbc.T)).ev := fun _ => by kernel_rfl
noncomputable def B_zbc_2 : Code := ((loopsOf C_zbc).find? fun p => Nat.beq p.1 2).elim .skip (·.2)
theorem l_zbc_2 : (DL_zbc_2).OK E_zbc tt Z_zbc (orcOf O_zbc) B_zbc_2 := yl (fun _ => rfl) fun _ _ => by kernel_rfl
noncomputable def B_zbc_0 : Code := ((loopsOf C_zbc).find? fun p => Nat.beq p.1 0).elim .skip (·.2)
theorem l_zbc_0 : (DL_zbc_0).OK E_zbc tt Z_zbc (orcOf O_zbc) B_zbc_0 := yl (fun _ => rfl) fun _ _ => by kernel_rfl
theorem o_zbc : LoopsOK E_zbc tt Z_zbc O_zbc C_zbc := by
 have h : loopsOf C_zbc = [(0, B_zbc_0), (2, B_zbc_2)] := by kernel_rfl
 unfold LoopsOK
 rw [h]
 exact yc ⟨fun d h => (by have e : some (DL_zbc_0) = some d := h; cases e; exact l_zbc_0), yc ⟨fun d h => (by have e : some (DL_zbc_2) = some d := h; cases e; exact l_zbc_2), yn⟩⟩
theorem ok_zbc : FnOK prog E_zbc tt 86 D_zbc K_zbc Z_zbc O_zbc f86 C_zbc (fun x => T_zbc x.1.2.1 x.1.2.2.1 x.1.2.2.2.1 x.2.1) (fun r => ((), (r, ()))) := yk func86 o_zbc e_zbc
theorem fd_zbc : FDok prog (86, D_zbc) := fn_ok mixed (env_ok (yn)) tabOK ok_zbc
theorem e_zay : ∀ x : D_zay.T, ((acode E_zay tt Z_zay (orcOf O_zay) C_zay (entry A_zay I_zay x)).map (keepRet tt K_zay)).ev = ((T_zay x.1.2.1 x.1.2.2.1 x.1.2.2.2.1 x.2.1).map fun r => some ((((), (r, ()))) : K_zay.T)).ev := fun _ => by kernel_rfl
noncomputable def B_zay_0 : Code := ((loopsOf C_zay).find? fun p => Nat.beq p.1 0).elim .skip (·.2)
theorem l_zay_0 : (DL_zay_0).OK E_zay tt Z_zay (orcOf O_zay) B_zay_0 := yl (fun _ => rfl) fun _ _ => by kernel_rfl
theorem o_zay : LoopsOK E_zay tt Z_zay O_zay C_zay := by
 have h : loopsOf C_zay = [(0, B_zay_0)] := by kernel_rfl
 unfold LoopsOK
 rw [h]
 exact yc ⟨fun d h => (by have e : some (DL_zay_0) = some d := h; cases e; exact l_zay_0), yn⟩
theorem ok_zay : FnOK prog E_zay tt 88 D_zay K_zay Z_zay O_zay f88 C_zay (fun x => T_zay x.1.2.1 x.1.2.2.1 x.1.2.2.2.1 x.2.1) (fun r => ((), (r, ()))) := yk func88 o_zay e_zay
theorem fd_zay : FDok prog (88, D_zay) := fn_ok mixed (env_ok (yc ⟨fd_zbi, yc ⟨fd_zbp, yn⟩⟩)) tabOK ok_zay
theorem e_zbj : ∀ x : D_zbj.T, ((acode E_zbj tt Z_zbj (orcOf O_zbj) C_zbj (entry A_zbj I_zbj x)).map (keepRet tt K_zbj)).ev = ((T_zbj x.1.1 x.1.2.1 x.1.2.2.1 x.1.2.2.2.2.1 x.2.1.1).map fun r => some ((((r.1, (r.2.1, ())), ((r.2.2, ()), ()))) : K_zbj.T)).ev := fun _ => by kernel_rfl
theorem o_zbj : LoopsOK E_zbj tt Z_zbj O_zbj C_zbj := yz (by kernel_rfl)
theorem ok_zbj : FnOK prog E_zbj tt 98 D_zbj K_zbj Z_zbj O_zbj f98 C_zbj (fun x => T_zbj x.1.1 x.1.2.1 x.1.2.2.1 x.1.2.2.2.2.1 x.2.1.1) (fun r => ((r.1, (r.2.1, ())), ((r.2.2, ()), ()))) := yk func98 o_zbj e_zbj
theorem fd_zbj : FDok prog (98, D_zbj) := fn_ok mixed (env_ok (yn)) tabOK ok_zbj
theorem e_zbg : ∀ x : D_zbg.T, ((acode E_zbg tt Z_zbg (orcOf O_zbg) C_zbg (entry A_zbg I_zbg x)).map (keepRet tt K_zbg)).ev = ((T_zbg x.1.1 x.1.2.1 x.1.2.2.1 x.1.2.2.2.1 x.1.2.2.2.2.2.1 x.2.1.1).map fun r => some ((((r.1, ()), ((r.2, ()), ()))) : K_zbg.T)).ev := fun _ => by kernel_rfl
theorem o_zbg : LoopsOK E_zbg tt Z_zbg O_zbg C_zbg := yz (by kernel_rfl)
theorem ok_zbg : FnOK prog E_zbg tt 97 D_zbg K_zbg Z_zbg O_zbg f97 C_zbg (fun x => T_zbg x.1.1 x.1.2.1 x.1.2.2.1 x.1.2.2.2.1 x.1.2.2.2.2.2.1 x.2.1.1) (fun r => ((r.1, ()), ((r.2, ()), ()))) := yk func97 o_zbg e_zbg
theorem fd_zbg : FDok prog (97, D_zbg) := fn_ok mixed (env_ok (yc ⟨fd_zbj, yn⟩)) tabOK ok_zbg
theorem e_zbe : ∀ x : D_zbe.T, ((acode E_zbe tt Z_zbe (orcOf O_zbe) C_zbe (entry A_zbe I_zbe x)).map (keepRet tt K_zbe)).ev = ((T_zbe x.1.1 x.1.2.1 x.1.2.2.2.1 x.2.1.1).map fun r => some ((((r.1, ()), ((r.2, ()), ()))) : K_zbe.T)).ev := fun _ => by kernel_rfl
theorem o_zbe : LoopsOK E_zbe tt Z_zbe O_zbe C_zbe := yz (by kernel_rfl)
theorem ok_zbe : FnOK prog E_zbe tt 96 D_zbe K_zbe Z_zbe O_zbe f96 C_zbe (fun x => T_zbe x.1.1 x.1.2.1 x.1.2.2.2.1 x.2.1.1) (fun r => ((r.1, ()), ((r.2, ()), ()))) := yk func96 o_zbe e_zbe
theorem fd_zbe : FDok prog (96, D_zbe) := fn_ok mixed (env_ok (yc ⟨fd_zbg, yn⟩)) tabOK ok_zbe
theorem e_zba : ∀ x : D_zba.T, ((acode E_zba tt Z_zba (orcOf O_zba) C_zba (entry A_zba I_zba x)).map (keepRet tt K_zba)).ev = ((T_zba x.1.1 x.1.2.1 x.1.2.2.1 x.1.2.2.2.1).map fun r => some ((((r.1, (r.2, ())), ())) : K_zba.T)).ev := fun _ => by kernel_rfl
theorem o_zba : LoopsOK E_zba tt Z_zba O_zba C_zba := yz (by kernel_rfl)
theorem ok_zba : FnOK prog E_zba tt 89 D_zba K_zba Z_zba O_zba f89 C_zba (fun x => T_zba x.1.1 x.1.2.1 x.1.2.2.1 x.1.2.2.2.1) (fun r => ((r.1, (r.2, ())), ())) := yk func89 o_zba e_zba
theorem fd_zba : FDok prog (89, D_zba) := fn_ok mixed (env_ok (yc ⟨fd_zbe, yc ⟨fd_zbg, yn⟩⟩)) tabOK ok_zba
theorem e_zbl : ∀ x : D_zbl.T, ((acode E_zbl tt Z_zbl (orcOf O_zbl) C_zbl (entry A_zbl I_zbl x)).map (keepRet tt K_zbl)).ev = ((T_zbl x.1.2.1 x.1.2.2.1 x.1.2.2.2.1 x.1.2.2.2.2.1 x.2.1).map fun r => some ((((r.1, (r.2.1, ())), (r.2.2, ()))) : K_zbl.T)).ev := fun _ => by kernel_rfl
noncomputable def B_zbl_0 : Code := ((loopsOf C_zbl).find? fun p => Nat.beq p.1 0).elim .skip (·.2)
theorem l_zbl_0 : (DL_zbl_0).OK E_zbl tt Z_zbl (orcOf O_zbl) B_zbl_0 := yl (fun _ => rfl) fun _ _ => by kernel_rfl
noncomputable def B_zbl_2 : Code := ((loopsOf C_zbl).find? fun p => Nat.beq p.1 2).elim .skip (·.2)
theorem l_zbl_2 : (DL_zbl_2).OK E_zbl tt Z_zbl (orcOf O_zbl) B_zbl_2 := yl (fun _ => rfl) fun _ _ => by kernel_rfl
noncomputable def B_zbl_6 : Code := ((loopsOf C_zbl).find? fun p => Nat.beq p.1 6).elim .skip (·.2)
theorem l_zbl_6 : (DL_zbl_6).OK E_zbl tt Z_zbl (orcOf O_zbl) B_zbl_6 := yl (fun _ => rfl) fun _ _ => by kernel_rfl
noncomputable def B_zbl_8 : Code := ((loopsOf C_zbl).find? fun p => Nat.beq p.1 8).elim .skip (·.2)
theorem l_zbl_8 : (DL_zbl_8).OK E_zbl tt Z_zbl (orcOf O_zbl) B_zbl_8 := yl (fun _ => rfl) fun _ _ => by kernel_rfl
noncomputable def B_zbl_4 : Code := ((loopsOf C_zbl).find? fun p => Nat.beq p.1 4).elim .skip (·.2)
theorem l_zbl_4 : (DL_zbl_4).OK E_zbl tt Z_zbl (orcOf O_zbl) B_zbl_4 := yl (fun _ => rfl) fun _ _ => by kernel_rfl
theorem o_zbl : LoopsOK E_zbl tt Z_zbl O_zbl C_zbl := by
 have h : loopsOf C_zbl = [(0, B_zbl_0), (2, B_zbl_2), (4, B_zbl_4), (6, B_zbl_6), (8, B_zbl_8)] := by kernel_rfl
 unfold LoopsOK
 rw [h]
 exact yc ⟨fun d h => (by have e : some (DL_zbl_0) = some d := h; cases e; exact l_zbl_0), yc ⟨fun d h => (by have e : some (DL_zbl_2) = some d := h; cases e; exact l_zbl_2), yc ⟨fun d h => (by have e : some (DL_zbl_4) = some d := h; cases e; exact l_zbl_4), yc ⟨fun d h => (by have e : some (DL_zbl_6) = some d := h; cases e; exact l_zbl_6), yc ⟨fun d h => (by have e : some (DL_zbl_8) = some d := h; cases e; exact l_zbl_8), yn⟩⟩⟩⟩⟩
theorem ok_zbl : FnOK prog E_zbl tt 93 D_zbl K_zbl Z_zbl O_zbl f93 C_zbl (fun x => T_zbl x.1.2.1 x.1.2.2.1 x.1.2.2.2.1 x.1.2.2.2.2.1 x.2.1) (fun r => ((r.1, (r.2.1, ())), (r.2.2, ()))) := yk func93 o_zbl e_zbl
theorem fd_zbl : FDok prog (93, D_zbl) := fn_ok mixed (env_ok (yn)) tabOK ok_zbl
theorem e_zbn (rec_ : (Int) → (Int) → (Int) → ((HL [y1, y1] → Option (Int))) → ((List Nat) × Y2) → Option ((List Nat) × Y2)) : ∀ x : (Dr_zbn rec_).T, ((acode (E_zbn rec_) tt Z_zbn (orcOf (O_zbn rec_)) C_zbn (entry A_zbn I_zbn x)).map (keepRet tt K_zbn)).ev = ((T_zbn rec_ x.1.2.1 x.1.2.2.1 x.1.2.2.2.1 x.1.2.2.2.2.1 x.2.1).map fun r => some ((((), (r, ()))) : K_zbn.T)).ev := fun _ => by kernel_rfl
noncomputable def B_zbn_0 : Code := ((loopsOf C_zbn).find? fun p => Nat.beq p.1 0).elim .skip (·.2)
theorem l_zbn_0 (rec_ : (Int) → (Int) → (Int) → ((HL [y1, y1] → Option (Int))) → ((List Nat) × Y2) → Option ((List Nat) × Y2)) : (DL_zbn_0 rec_).OK (E_zbn rec_) tt Z_zbn (orcOf (O_zbn rec_)) B_zbn_0 := yl (fun _ => rfl) fun _ _ => by kernel_rfl
theorem o_zbn (rec_ : (Int) → (Int) → (Int) → ((HL [y1, y1] → Option (Int))) → ((List Nat) × Y2) → Option ((List Nat) × Y2)) : LoopsOK (E_zbn rec_) tt Z_zbn (O_zbn rec_) C_zbn := by
 have h : loopsOf C_zbn = [(0, B_zbn_0)] := by kernel_rfl
 unfold LoopsOK
 rw [h]
 exact yc ⟨fun d h => (by have e : some (DL_zbn_0 rec_) = some d := h; cases e; exact l_zbn_0 rec_), yn⟩
theorem ok_zbn (n : Nat) : FnOK prog (E_zbn (F_zbn n)) tt 76 (D_zbn (n + 1)) K_zbn Z_zbn (O_zbn (F_zbn n)) f76 C_zbn (fun x => T_zbn (F_zbn n) x.1.2.1 x.1.2.2.1 x.1.2.2.2.1 x.1.2.2.2.2.1 x.2.1) (fun r => ((), (r, ()))) where
 at_ := func76
 name := by kernel_rfl
 body := by kernel_rfl
 res := by kernel_rfl
 ok := by kernel_rfl
 arity := fun _ => Nat.le_of_ble_eq_true (by kernel_rfl)
 pin := fun _ => by kernel_rfl
 chk := by kernel_rfl
 loops := o_zbn (F_zbn n)
 run := e_zbn (F_zbn n)
 F := fun _ => rfl
 emb := fun _ => rfl
theorem fd_zbn : ∀ n : Nat, FDok prog (76, D_zbn n)
 | 0 => fun _ _ h => nomatch h
 | n + 1 => fn_ok mixed (env_ok (yc ⟨fd_zbc, yc ⟨fd_zay, yc ⟨fd_zba, yc ⟨fd_zbl, yc ⟨fd_zbn n, yn⟩⟩⟩⟩⟩)) tabOK (ok_zbn n)
theorem e_zau : ∀ x : D_zau.T, ((acode E_zau tt Z_zau (orcOf O_zau) C_zau (entry A_zau I_zau x)).map (keepRet tt K_zau)).ev = ((T_zau x.1.2.1 x.2.1).map fun r => some ((((), (r, ()))) : K_zau.T)).ev := fun _ => by kernel_rfl
theorem o_zau : LoopsOK E_zau tt Z_zau O_zau C_zau := yz (by kernel_rfl)
theorem ok_zau : FnOK prog E_zau tt 61 D_zau K_zau Z_zau O_zau f61 C_zau (fun x => T_zau x.1.2.1 x.2.1) (fun r => ((), (r, ()))) := yk func61 o_zau e_zau
theorem fd_zau : FDok prog (61, D_zau) := fn_ok mixed (env_ok (yc ⟨fd_zal, yc ⟨fd_zbn 1000000, yn⟩⟩)) tabOK ok_zau
theorem e_za : ∀ x : D_za.T, ((acode E_za tt Z_za (orcOf O_za) C_za (entry A_za I_za x)).map (keepRet tt K_za)).ev = ((T_za x.1.1 x.1.2.1).map fun r => some ((((r, ()), ())) : K_za.T)).ev := fun _ => by kernel_rfl
theorem o_za : LoopsOK E_za tt Z_za O_za C_za := yz (by kernel_rfl)
theorem ok_za : FnOK prog E_za tt 78 D_za K_za Z_za O_za f78 C_za (fun x => T_za x.1.1 x.1.2.1) (fun r => ((r, ()), ())) := yk func78 o_za e_za
theorem fd_za : FDok prog (78, D_za) := fn_ok mixed (env_ok (yc ⟨fd_zd, yn⟩)) tabOK ok_za
theorem e_zao : ∀ x : D_zao.T, ((acode E_zao tt Z_zao (orcOf O_zao) C_zao (entry A_zao I_zao x)).map (keepRet tt K_zao)).ev = ((T_zao x.1.1 x.1.2.1).map fun r => some ((((r, ()), ())) : K_zao.T)).ev := fun _ => by kernel_rfl
noncomputable def B_zao_0 : Code := ((loopsOf C_zao).find? fun p => Nat.beq p.1 0).elim .skip (·.2)
theorem l_zao_0 : (DL_zao_0).OK E_zao tt Z_zao (orcOf O_zao) B_zao_0 := yl (fun _ => rfl) fun _ _ => by kernel_rfl
theorem o_zao : LoopsOK E_zao tt Z_zao O_zao C_zao := by
 have h : loopsOf C_zao = [(0, B_zao_0)] := by kernel_rfl
 unfold LoopsOK
 rw [h]
 exact yc ⟨fun d h => (by have e : some (DL_zao_0) = some d := h; cases e; exact l_zao_0), yn⟩
theorem ok_zao : FnOK prog E_zao tt 79 D_zao K_zao Z_zao O_zao f79 C_zao (fun x => T_zao x.1.1 x.1.2.1) (fun r => ((r, ()), ())) := yk func79 o_zao e_zao
theorem fd_zao : FDok prog (79, D_zao) := fn_ok mixed (env_ok (yc ⟨fd_za, yn⟩)) tabOK ok_zao
theorem e_zc : ∀ x : D_zc.T, ((acode E_zc tt Z_zc (orcOf O_zc) C_zc (entry A_zc I_zc x)).map (keepRet tt K_zc)).ev = ((T_zc x.1.1).map fun r => some ((((r, ()), ())) : K_zc.T)).ev := fun _ => by kernel_rfl
noncomputable def B_zc_0 : Code := ((loopsOf C_zc).find? fun p => Nat.beq p.1 0).elim .skip (·.2)
theorem l_zc_0 : (DL_zc_0).OK E_zc tt Z_zc (orcOf O_zc) B_zc_0 := yl (fun _ => rfl) fun _ _ => by kernel_rfl
theorem o_zc : LoopsOK E_zc tt Z_zc O_zc C_zc := by
 have h : loopsOf C_zc = [(0, B_zc_0)] := by kernel_rfl
 unfold LoopsOK
 rw [h]
 exact yc ⟨fun d h => (by have e : some (DL_zc_0) = some d := h; cases e; exact l_zc_0), yn⟩
theorem ok_zc : FnOK prog E_zc tt 77 D_zc K_zc Z_zc O_zc f77 C_zc (fun x => T_zc x.1.1) (fun r => ((r, ()), ())) := yk func77 o_zc e_zc
theorem fd_zc : FDok prog (77, D_zc) := fn_ok mixed (env_ok (yn)) tabOK ok_zc
theorem e_zu : ∀ x : D_zu.T, ((acode E_zu tt Z_zu (orcOf O_zu) C_zu (entry A_zu I_zu x)).map (keepRet tt K_zu)).ev = ((T_zu x.1.1 x.1.2.1).map fun r => some ((((r, ()), ())) : K_zu.T)).ev := fun _ => by kernel_rfl
theorem o_zu : LoopsOK E_zu tt Z_zu O_zu C_zu := yz (by kernel_rfl)
theorem ok_zu : FnOK prog E_zu tt 62 D_zu K_zu Z_zu O_zu f62 C_zu (fun x => T_zu x.1.1 x.1.2.1) (fun r => ((r, ()), ())) := yk func62 o_zu e_zu
theorem fd_zu : FDok prog (62, D_zu) := fn_ok mixed (env_ok (yc ⟨fd_za, yc ⟨fd_zao, yc ⟨fd_zc, yn⟩⟩⟩)) tabOK ok_zu
theorem e_zy : ∀ x : D_zy.T, ((acode E_zy tt Z_zy (orcOf O_zy) C_zy (entry A_zy I_zy x)).map (keepRet tt K_zy)).ev = ((T_zy x.1.1).map fun r => some (((((), ()), (r, ()))) : K_zy.T)).ev := fun _ => by kernel_rfl
noncomputable def B_zy_0 : Code := ((loopsOf C_zy).find? fun p => Nat.beq p.1 0).elim .skip (·.2)
theorem l_zy_0 : (DL_zy_0).OK E_zy tt Z_zy (orcOf O_zy) B_zy_0 := yl (fun _ => rfl) fun _ _ => by kernel_rfl
theorem o_zy : LoopsOK E_zy tt Z_zy O_zy C_zy := by
 have h : loopsOf C_zy = [(0, B_zy_0)] := by kernel_rfl
 unfold LoopsOK
 rw [h]
 exact yc ⟨fun d h => (by have e : some (DL_zy_0) = some d := h; cases e; exact l_zy_0), yn⟩
theorem ok_zy : FnOK prog E_zy tt 52 D_zy K_zy Z_zy O_zy f52 C_zy (fun x => T_zy x.1.1) (fun r => (((), ()), (r, ()))) := yk func52 o_zy e_zy
theorem fd_zy : FDok prog (52, D_zy) := fn_ok mixed (env_ok (yc ⟨fd_zs, yc ⟨fd_zau, yc ⟨fd_zau, yc ⟨fd_zu, yn⟩⟩⟩⟩)) tabOK ok_zy
theorem e_zar : ∀ x : D_zar.T, ((acode E_zar tt Z_zar (orcOf O_zar) C_zar (entry A_zar I_zar x)).map (keepRet tt K_zar)).ev = ((T_zar x.1.2.1 x.2.1).map fun r => some (((((), ()), (r, ()))) : K_zar.T)).ev := fun _ => by kernel_rfl
noncomputable def B_zar_0 : Code := ((loopsOf C_zar).find? fun p => Nat.beq p.1 0).elim .skip (·.2)
theorem l_zar_0 : (DL_zar_0).OK E_zar tt Z_zar (orcOf O_zar) B_zar_0 := yl (fun _ => rfl) fun _ _ => by kernel_rfl
theorem o_zar : LoopsOK E_zar tt Z_zar O_zar C_zar := by
 have h : loopsOf C_zar = [(0, B_zar_0)] := by kernel_rfl
 unfold LoopsOK
 rw [h]
 exact yc ⟨fun d h => (by have e : some (DL_zar_0) = some d := h; cases e; exact l_zar_0), yn⟩
theorem ok_zar : FnOK prog E_zar tt 51 D_zar K_zar Z_zar O_zar f51 C_zar (fun x => T_zar x.1.2.1 x.2.1) (fun r => (((), ()), (r, ()))) := yk func51 o_zar e_zar
theorem fd_zar : FDok prog (51, D_zar) := fn_ok mixed (env_ok (yc ⟨fd_zas, yn⟩)) tabOK ok_zar
theorem e_zg : ∀ x : D_zg.T, ((acode E_zg tt Z_zg (orcOf O_zg) C_zg (entry A_zg I_zg x)).map (keepRet tt K_zg)).ev = ((T_zg x.1.1 x.1.2.1.1).map fun r => some ((((r, ()), ())) : K_zg.T)).ev := fun _ => by kernel_rfl
theorem o_zg : LoopsOK E_zg tt Z_zg O_zg C_zg := yz (by kernel_rfl)
theorem ok_zg : FnOK prog E_zg tt 53 D_zg K_zg Z_zg O_zg f53 C_zg (fun x => T_zg x.1.1 x.1.2.1.1) (fun r => ((r, ()), ())) := yk func53 o_zg e_zg
theorem fd_zg : FDok prog (53, D_zg) := fn_ok mixed (env_ok (yn)) tabOK ok_zg
theorem e_zx : ∀ x : D_zx.T, ((acode E_zx tt Z_zx (orcOf O_zx) C_zx (entry A_zx I_zx x)).map (keepRet tt K_zx)).ev = ((T_zx x.1.2.1 x.2.1).map fun r => some (((((), ()), (r, ()))) : K_zx.T)).ev := fun _ => by kernel_rfl
noncomputable def B_zx_0 : Code := ((loopsOf C_zx).find? fun p => Nat.beq p.1 0).elim .skip (·.2)
theorem l_zx_0 : (DL_zx_0).OK E_zx tt Z_zx (orcOf O_zx) B_zx_0 := yl (fun _ => rfl) fun _ _ => by kernel_rfl
theorem o_zx : LoopsOK E_zx tt Z_zx O_zx C_zx := by
 have h : loopsOf C_zx = [(0, B_zx_0)] := by kernel_rfl
 unfold LoopsOK
 rw [h]
 exact yc ⟨fun d h => (by have e : some (DL_zx_0) = some d := h; cases e; exact l_zx_0), yn⟩
theorem ok_zx : FnOK prog E_zx tt 54 D_zx K_zx Z_zx O_zx f54 C_zx (fun x => T_zx x.1.2.1 x.2.1) (fun r => (((), ()), (r, ()))) := yk func54 o_zx e_zx
theorem fd_zx : FDok prog (54, D_zx) := fn_ok mixed (env_ok (yn)) tabOK ok_zx
theorem e_zi : ∀ x : D_zi.T, ((acode E_zi tt Z_zi (orcOf O_zi) C_zi (entry A_zi I_zi x)).map (keepRet tt K_zi)).ev = ((T_zi x.1.1.1 x.1.1.2.1 x.1.2.1 x.1.2.2.1).map fun r => some ((((r, ()), ())) : K_zi.T)).ev := fun _ => by kernel_rfl
noncomputable def B_zi_0 : Code := ((loopsOf C_zi).find? fun p => Nat.beq p.1 0).elim .skip (·.2)
theorem l_zi_0 : (DL_zi_0).OK E_zi tt Z_zi (orcOf O_zi) B_zi_0 := yl (fun _ => rfl) fun _ _ => by kernel_rfl
theorem o_zi : LoopsOK E_zi tt Z_zi O_zi C_zi := by
 have h : loopsOf C_zi = [(0, B_zi_0)] := by kernel_rfl
 unfold LoopsOK
 rw [h]
 exact yc ⟨fun d h => (by have e : some (DL_zi_0) = some d := h; cases e; exact l_zi_0), yn⟩
theorem ok_zi : FnOK prog E_zi tt 63 D_zi K_zi Z_zi O_zi f63 C_zi (fun x => T_zi x.1.1.1 x.1.1.2.1 x.1.2.1 x.1.2.2.1) (fun r => ((r, ()), ())) := yk func63 o_zi e_zi
theorem fd_zi : FDok prog (63, D_zi) := fn_ok mixed (env_ok (yn)) tabOK ok_zi
theorem e_zh : ∀ x : D_zh.T, ((acode E_zh tt Z_zh (orcOf O_zh) C_zh (entry A_zh I_zh x)).map (keepRet tt K_zh)).ev = ((T_zh x.1.1.1 x.1.1.2.1 x.1.2.1).map fun r => some (((((), ()), (r, ()))) : K_zh.T)).ev := fun _ => by kernel_rfl
noncomputable def B_zh_0 : Code := ((loopsOf C_zh).find? fun p => Nat.beq p.1 0).elim .skip (·.2)
theorem l_zh_0 : (DL_zh_0).OK E_zh tt Z_zh (orcOf O_zh) B_zh_0 := yl (fun _ => rfl) fun _ _ => by kernel_rfl
theorem o_zh : LoopsOK E_zh tt Z_zh O_zh C_zh := by
 have h : loopsOf C_zh = [(0, B_zh_0)] := by kernel_rfl
 unfold LoopsOK
 rw [h]
 exact yc ⟨fun d h => (by have e : some (DL_zh_0) = some d := h; cases e; exact l_zh_0), yn⟩
theorem ok_zh : FnOK prog E_zh tt 55 D_zh K_zh Z_zh O_zh f55 C_zh (fun x => T_zh x.1.1.1 x.1.1.2.1 x.1.2.1) (fun r => (((), ()), (r, ()))) := yk func55 o_zh e_zh
theorem fd_zh : FDok prog (55, D_zh) := fn_ok mixed (env_ok (yc ⟨fd_zi, yn⟩)) tabOK ok_zh
theorem e_ze : ∀ x : D_ze.T, ((acode E_ze tt Z_ze (orcOf O_ze) C_ze (entry A_ze I_ze x)).map (keepRet tt K_ze)).ev = ((T_ze x.1.1.1 x.1.1.2.1 x.1.2.1).map fun r => some (((((), ()), (r, ()))) : K_ze.T)).ev := fun _ => by kernel_rfl
noncomputable def B_ze_0 : Code := ((loopsOf C_ze).find? fun p => Nat.beq p.1 0).elim .skip (·.2)
theorem l_ze_0 : (DL_ze_0).OK E_ze tt Z_ze (orcOf O_ze) B_ze_0 := yl (fun _ => rfl) fun _ _ => by kernel_rfl
theorem o_ze : LoopsOK E_ze tt Z_ze O_ze C_ze := by
 have h : loopsOf C_ze = [(0, B_ze_0)] := by kernel_rfl
 unfold LoopsOK
 rw [h]
 exact yc ⟨fun d h => (by have e : some (DL_ze_0) = some d := h; cases e; exact l_ze_0), yn⟩
theorem ok_ze : FnOK prog E_ze tt 41 D_ze K_ze Z_ze O_ze f41 C_ze (fun x => T_ze x.1.1.1 x.1.1.2.1 x.1.2.1) (fun r => (((), ()), (r, ()))) := yk func41 o_ze e_ze
theorem fd_ze : FDok prog (41, D_ze) := fn_ok mixed (env_ok (yc ⟨fd_zh, yn⟩)) tabOK ok_ze
theorem e_zz : ∀ x : D_zz.T, ((acode E_zz tt Z_zz (orcOf O_zz) C_zz (entry A_zz I_zz x)).map (keepRet tt K_zz)).ev = ((T_zz x.1.1).map fun r => some ((((r, ()), ())) : K_zz.T)).ev := fun _ => by kernel_rfl
noncomputable def B_zz_0 : Code := ((loopsOf C_zz).find? fun p => Nat.beq p.1 0).elim .skip (·.2)
theorem l_zz_0 : (DL_zz_0).OK E_zz tt Z_zz (orcOf O_zz) B_zz_0 := yl (fun _ => rfl) fun _ _ => by kernel_rfl
theorem o_zz : LoopsOK E_zz tt Z_zz O_zz C_zz := by
 have h : loopsOf C_zz = [(0, B_zz_0)] := by kernel_rfl
 unfold LoopsOK
 rw [h]
 exact yc ⟨fun d h => (by have e : some (DL_zz_0) = some d := h; cases e; exact l_zz_0), yn⟩
theorem ok_zz : FnOK prog E_zz tt 40 D_zz K_zz Z_zz O_zz f40 C_zz (fun x => T_zz x.1.1) (fun r => ((r, ()), ())) := yk func40 o_zz e_zz
theorem fd_zz : FDok prog (40, D_zz) := fn_ok mixed (env_ok (yn)) tabOK ok_zz
theorem e_zj : ∀ x : D_zj.T, ((acode E_zj tt Z_zj (orcOf O_zj) C_zj (entry A_zj I_zj x)).map (keepRet tt K_zj)).ev = ((T_zj x.1.1.1 x.1.1.2.1 x.1.2.1).map fun r => some ((((r, ()), ())) : K_zj.T)).ev := fun _ => by kernel_rfl
theorem o_zj : LoopsOK E_zj tt Z_zj O_zj C_zj := yz (by kernel_rfl)
theorem ok_zj : FnOK prog E_zj tt 25 D_zj K_zj Z_zj O_zj f25 C_zj (fun x => T_zj x.1.1.1 x.1.1.2.1 x.1.2.1) (fun r => ((r, ()), ())) := yk func25 o_zj e_zj
theorem fd_zj : FDok prog (25, D_zj) := fn_ok mixed (env_ok (yc ⟨fd_ze, yc ⟨fd_zz, yn⟩⟩)) tabOK ok_zj
theorem e_zf : ∀ x : D_zf.T, ((acode E_zf tt Z_zf (orcOf O_zf) C_zf (entry A_zf I_zf x)).map (keepRet tt K_zf)).ev = ((T_zf x.1.1.1 x.1.1.2.1 x.1.2.1).map fun r => some (((((), ()), (r, ()))) : K_zf.T)).ev := fun _ => by kernel_rfl
theorem o_zf : LoopsOK E_zf tt Z_zf O_zf C_zf := yz (by kernel_rfl)
theorem ok_zf : FnOK prog E_zf tt 39 D_zf K_zf Z_zf O_zf f39 C_zf (fun x => T_zf x.1.1.1 x.1.1.2.1 x.1.2.1) (fun r => (((), ()), (r, ()))) := yk func39 o_zf e_zf
theorem fd_zf : FDok prog (39, D_zf) := fn_ok mixed (env_ok (yc ⟨fd_zy, yc ⟨fd_zar, yc ⟨fd_zx, yc ⟨fd_zx, yc ⟨fd_zj, yc ⟨fd_zar, yc ⟨fd_zg, yn⟩⟩⟩⟩⟩⟩⟩)) tabOK ok_zf
theorem e_zk : ∀ x : D_zk.T, ((acode E_zk tt Z_zk (orcOf O_zk) C_zk (entry A_zk I_zk x)).map (keepRet tt K_zk)).ev = ((T_zk x.1.1.1 x.1.1.2.1).map fun r => some (((((), ()), (r, ()))) : K_zk.T)).ev := fun _ => by kernel_rfl
noncomputable def B_zk_0 : Code := ((loopsOf C_zk).find? fun p => Nat.beq p.1 0).elim .skip (·.2)
theorem l_zk_0 : (DL_zk_0).OK E_zk tt Z_zk (orcOf O_zk) B_zk_0 := yl (fun _ => rfl) fun _ _ => by kernel_rfl
theorem o_zk : LoopsOK E_zk tt Z_zk O_zk C_zk := by
 have h : loopsOf C_zk = [(0, B_zk_0)] := by kernel_rfl
 unfold LoopsOK
 rw [h]
 exact yc ⟨fun d h => (by have e : some (DL_zk_0) = some d := h; cases e; exact l_zk_0), yn⟩
theorem ok_zk : FnOK prog E_zk tt 24 D_zk K_zk Z_zk O_zk f24 C_zk (fun x => T_zk x.1.1.1 x.1.1.2.1) (fun r => (((), ()), (r, ()))) := yk func24 o_zk e_zk
theorem fd_zk : FDok prog (24, D_zk) := fn_ok mixed (env_ok (yc ⟨fd_zf, yc ⟨fd_zj, yn⟩⟩)) tabOK ok_zk
theorem e_zo : ∀ x : D_zo.T, ((acode E_zo tt Z_zo (orcOf O_zo) C_zo (entry A_zo I_zo x)).map (keepRet tt K_zo)).ev = ((T_zo x.1.1.1 x.1.1.2.1).map fun r => some (((((r.1, (r.2, ())), ()), ())) : K_zo.T)).ev := fun _ => by kernel_rfl
theorem o_zo : LoopsOK E_zo tt Z_zo O_zo C_zo := yz (by kernel_rfl)
theorem ok_zo : FnOK prog E_zo tt 23 D_zo K_zo Z_zo O_zo f23 C_zo (fun x => T_zo x.1.1.1 x.1.1.2.1) (fun r => (((r.1, (r.2, ())), ()), ())) := yk func23 o_zo e_zo
theorem fd_zo : FDok prog (23, D_zo) := fn_ok mixed (env_ok (yn)) tabOK ok_zo
theorem e_zn : ∀ x : D_zn.T, ((acode E_zn tt Z_zn (orcOf O_zn) C_zn (entry A_zn I_zn x)).map (keepRet tt K_zn)).ev = ((T_zn x.1.1.1 x.1.1.2.1 x.1.2.1).map fun r => some ((((r.1, ((r.2.1, (r.2.2.1, ())), (r.2.2.2, ()))), ())) : K_zn.T)).ev := fun _ => by kernel_rfl
noncomputable def B_zn_0 : Code := ((loopsOf C_zn).find? fun p => Nat.beq p.1 0).elim .skip (·.2)
theorem l_zn_0 : (DL_zn_0).OK E_zn tt Z_zn (orcOf O_zn) B_zn_0 := yl (fun _ => rfl) fun _ _ => by kernel_rfl
theorem o_zn : LoopsOK E_zn tt Z_zn O_zn C_zn := by
 have h : loopsOf C_zn = [(0, B_zn_0)] := by kernel_rfl
 unfold LoopsOK
 rw [h]
 exact yc ⟨fun d h => (by have e : some (DL_zn_0) = some d := h; cases e; exact l_zn_0), yn⟩
theorem ok_zn : FnOK prog E_zn tt 8 D_zn K_zn Z_zn O_zn f8 C_zn (fun x => T_zn x.1.1.1 x.1.1.2.1 x.1.2.1) (fun r => ((r.1, ((r.2.1, (r.2.2.1, ())), (r.2.2.2, ()))), ())) := yk func8 o_zn e_zn
theorem fd_zn : FDok prog (8, D_zn) := fn_ok mixed (env_ok (yc ⟨fd_zl, yc ⟨fd_zv, yc ⟨fd_zk, yc ⟨fd_zax, yc ⟨fd_zaw, yc ⟨fd_zj, yc ⟨fd_zo, yn⟩⟩⟩⟩⟩⟩⟩)) tabOK ok_zn
theorem fd_zac : FDok prog (9, D_zac) := hand_eqA2
theorem e_zad : ∀ x : D_zad.T, ((acode E_zad tt Z_zad (orcOf O_zad) C_zad (entry A_zad I_zad x)).map (keepRet tt K_zad)).ev = ((T_zad x.1.1 x.1.2.1).map fun r => some ((((r, ()), ())) : K_zad.T)).ev := fun _ => by kernel_rfl
noncomputable def B_zad_0 : Code := ((loopsOf C_zad).find? fun p => Nat.beq p.1 0).elim .skip (·.2)
theorem l_zad_0 : (DL_zad_0).OK E_zad tt Z_zad (orcOf O_zad) B_zad_0 := yl (fun _ => rfl) fun _ _ => by kernel_rfl
theorem o_zad : LoopsOK E_zad tt Z_zad O_zad C_zad := by
 have h : loopsOf C_zad = [(0, B_zad_0)] := by kernel_rfl
 unfold LoopsOK
 rw [h]
 exact yc ⟨fun d h => (by have e : some (DL_zad_0) = some d := h; cases e; exact l_zad_0), yn⟩
theorem ok_zad : FnOK prog E_zad tt 11 D_zad K_zad Z_zad O_zad f11 C_zad (fun x => T_zad x.1.1 x.1.2.1) (fun r => ((r, ()), ())) := yk func11 o_zad e_zad
theorem fd_zad : FDok prog (11, D_zad) := fn_ok mixed (env_ok (yn)) tabOK ok_zad
theorem e_zae : ∀ x : D_zae.T, ((acode E_zae tt Z_zae (orcOf O_zae) C_zae (entry A_zae I_zae x)).map (keepRet tt K_zae)).ev = ((T_zae x.1.1 x.1.2.1).map fun r => some ((((r, ()), ())) : K_zae.T)).ev := fun _ => by kernel_rfl
noncomputable def B_zae_0 : Code := ((loopsOf C_zae).find? fun p => Nat.beq p.1 0).elim .skip (·.2)
theorem l_zae_0 : (DL_zae_0).OK E_zae tt Z_zae (orcOf O_zae) B_zae_0 := yl (fun _ => rfl) fun _ _ => by kernel_rfl
theorem o_zae : LoopsOK E_zae tt Z_zae O_zae C_zae := by
 have h : loopsOf C_zae = [(0, B_zae_0)] := by kernel_rfl
 unfold LoopsOK
 rw [h]
 exact yc ⟨fun d h => (by have e : some (DL_zae_0) = some d := h; cases e; exact l_zae_0), yn⟩
theorem ok_zae : FnOK prog E_zae tt 28 D_zae K_zae Z_zae O_zae f28 C_zae (fun x => T_zae x.1.1 x.1.2.1) (fun r => ((r, ()), ())) := yk func28 o_zae e_zae
theorem fd_zae : FDok prog (28, D_zae) := fn_ok mixed (env_ok (yc ⟨fd_zad, yn⟩)) tabOK ok_zae
theorem e_zab : ∀ x : D_zab.T, ((acode E_zab tt Z_zab (orcOf O_zab) C_zab (entry A_zab I_zab x)).map (keepRet tt K_zab)).ev = ((T_zab x.1.1.1 x.1.1.2.1 x.1.2.1.1 x.1.2.1.2.1).map fun r => some ((((r, ()), ())) : K_zab.T)).ev := fun _ => by kernel_rfl
theorem o_zab : LoopsOK E_zab tt Z_zab O_zab C_zab := yz (by kernel_rfl)
theorem ok_zab : FnOK prog E_zab tt 10 D_zab K_zab Z_zab O_zab f10 C_zab (fun x => T_zab x.1.1.1 x.1.1.2.1 x.1.2.1.1 x.1.2.1.2.1) (fun r => ((r, ()), ())) := yk func10 o_zab e_zab
theorem fd_zab : FDok prog (10, D_zab) := fn_ok mixed (env_ok (yc ⟨fd_zad, yc ⟨fd_zae, yn⟩⟩)) tabOK ok_zab
theorem e_zaa : ∀ x : D_zaa.T, ((acode E_zaa tt Z_zaa (orcOf O_zaa) C_zaa (entry A_zaa I_zaa x)).map (keepRet tt K_zaa)).ev = ((T_zaa x.1.1.1 x.1.1.2.1 x.1.2.1).map fun r => some ((((r, ()), ())) : K_zaa.T)).ev := fun _ => by kernel_rfl
theorem o_zaa : LoopsOK E_zaa tt Z_zaa O_zaa C_zaa := yz (by kernel_rfl)
theorem ok_zaa : FnOK prog E_zaa tt 3 D_zaa K_zaa Z_zaa O_zaa f3 C_zaa (fun x => T_zaa x.1.1.1 x.1.1.2.1 x.1.2.1) (fun r => ((r, ()), ())) := yk func3 o_zaa e_zaa
theorem fd_zaa : FDok prog (3, D_zaa) := fn_ok mixed (env_ok (yc ⟨fd_zaf, yc ⟨fd_zai, yc ⟨fd_zaj, yc ⟨fd_zbq, yc ⟨fd_zn, yc ⟨fd_zac, yc ⟨fd_zab, yc ⟨fd_zad, yn⟩⟩⟩⟩⟩⟩⟩⟩)) tabOK ok_zaa
end Go.Proofs.Ytbofjefpngpegaa
