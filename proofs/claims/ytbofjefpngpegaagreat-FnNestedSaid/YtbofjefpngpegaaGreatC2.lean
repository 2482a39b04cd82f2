import Derived.Test.YtbofjefpngpegaaGreatC1
namespace Go.Proofs.YtbofjefpngpegaaGreat
open Go.Proofs.Tryz
theorem yk {P : Program} {E : Env} {tt : Nat → TD} {f : Nat} {d : FD} {rt : RetK} {fz : Nat → Nat → List Nat} {l : List (Nat × LD)} {fn : Func} {c : Code} {T : d.T → Tr d.R} {rho : d.R → rt.T} (at_ : P.funcs[f]? = some fn) (loops : wo E tt fz l c)
    (run : ∀ x : d.T, ((wad E tt fz (waa l) c (entry d.A d.ins x)).map (wz tt rt)).ev = ((T x).map fun r => some (rho r)).ev) (F : ∀ x, d.F x = (T x).ev := by exact fun _ => rfl) (emb : ∀ r, d.emb r = (val rt.sh (rho r).1, wgn rt.obs (rho r).2 ++ rt.gone.map fun o => (o, Ob.spent)) := by exact fun _ => rfl)
    (name : (fn.name == "runtime.NumGoroutine") = false := by kernel_rfl) (body : fn.body = some c := by kernel_rfl) (res : fn.results = rt.res.toArray := by kernel_rfl) (ok : rt.ok = true := by kernel_rfl)
    (arity : ∀ x : d.T, (val d.A x.1).length ≤ fn.ntmps := by exact fun _ => Nat.le_of_ble_eq_true (by kernel_rfl)) (pin : ∀ x : d.T, (rt.pins.all fun q => waea ((entry d.A d.ins x).slot q.1) q.2.1 q.2.2) = true := by exact fun _ => by kernel_rfl)
    (chk : wbh fz (pinK rt.pins) fn.ntmps c = true := by kernel_rfl) (gone : (rt.gone.all fun o => (Nat.ble 64 o && (d.ins.map (·.1)).any (Nat.beq o)) && !(rt.obs.map (·.1)).any (Nat.beq o)) = true := by rfl) : FnOK P E tt f d rt fz l fn c T rho :=
  ⟨at_, name, body, res, ok, arity, pin, chk, loops, run, F, emb, gone⟩
theorem yl {E : Env} {tt : Nat → TD} {fz : Nat → Nat → List Nat} {orc : Orc} {b : Code} {d : LD} (eta : ∀ t, d.join (d.sk t) (d.sv t) = t) (step : ∀ k v, ((wad E tt fz orc b (wav d.head.S (d.join k v))).map (whr (some d.head) d.exits d.rets)).ev = ((d.step k v).bind (d.next k)).ev)
    (ok : d.head.S.ok = true := by kernel_rfl) (oke : d.exits.all (fun p => p.2.S.ok) = true := by kernel_rfl) (okr : d.rets.S.ok = true := by kernel_rfl) : d.OK E tt fz orc b := ⟨ok, oke, okr, eta, step⟩
theorem yz {E : Env} {tt : Nat → TD} {fz : Nat → Nat → List Nat} {l : List (Nat × LD)} {c : Code} (h : wu c = []) : wo E tt fz l c := by
  unfold wo
  rw [h]
  exact yn
theorem mixed : prog.follows .mixedOrders = true := by kernel_rfl
theorem wag : wam prog tt := wbnr (by kernel_rfl)
theorem wcgw : ∀ x : D_zag.T, ((wad wbdv tt wbdw (waa wbdx) wbdy (entry wbnv wbnw x)).map (wz tt K_zag)).ev = ((warz x.1.1).map fun r => some ((((r, ()), ())) : K_zag.T)).ev := fun _ => by kernel_rfl
theorem wcgx : wo wbdv tt wbdw wbdx wbdy := yz (by kernel_rfl)
theorem wbtz : FnOK prog wbdv tt 25 D_zag K_zag wbdw wbdx f25 wbdy (fun x => warz x.1.1) (fun r => ((r, ()), ())) := yk func25 wcgx wcgw
theorem wbua : waq prog (25, D_zag) := waf mixed (wab (yn)) wag wbtz
theorem wcgy : ∀ x : D_zbx.T, ((wad wbdz tt wbea (waa wbeb) wbec (entry wbnx wbny x)).map (wz tt K_zbx)).ev = ((wasa x.2.1.1 x.2.1.2.1 x.2.1.2.2.1).map fun r => some ((((r.1, ()), ((r.2.1, (r.2.2.1, (r.2.2.2, ()))), ()))) : K_zbx.T)).ev := fun _ => by kernel_rfl
theorem wcgz : wo wbdz tt wbea wbeb wbec := yz (by kernel_rfl)
theorem wbub : FnOK prog wbdz tt 139 D_zbx K_zbx wbea wbeb f139 wbec (fun x => wasa x.2.1.1 x.2.1.2.1 x.2.1.2.2.1) (fun r => ((r.1, ()), ((r.2.1, (r.2.2.1, (r.2.2.2, ()))), ()))) := yk func139 wcgz wcgy
theorem wbuc : waq prog (139, D_zbx) := waf mixed (wab (yn)) wag wbub
theorem wcha : ∀ x : D_zbz.T, ((wad wbed tt wbee (waa wbef) wbeg (entry wbnz wboa x)).map (wz tt K_zbz)).ev = ((wasb x.1.2.1 x.2.1.1 x.2.1.2.1 x.2.1.2.2.1).map fun r => some ((((r.1, ()), ((r.2.1, (r.2.2.1, (r.2.2.2, ()))), ()))) : K_zbz.T)).ev := fun _ => by kernel_rfl
theorem wchb : wo wbed tt wbee wbef wbeg := yz (by kernel_rfl)
theorem wbud : FnOK prog wbed tt 83 D_zbz K_zbz wbee wbef f83 wbeg (fun x => wasb x.1.2.1 x.2.1.1 x.2.1.2.1 x.2.1.2.2.1) (fun r => ((r.1, ()), ((r.2.1, (r.2.2.1, (r.2.2.2, ()))), ()))) := yk func83 wchb wcha
theorem wmh : waq prog (83, D_zbz) := waf mixed (wab (yc ⟨wbuc, yn⟩)) wag wbud
theorem wchc : ∀ x : D_zbt.T, ((wad wbeh tt wbei (waa wbej) wbek (entry wbob wboc x)).map (wz tt K_zbt)).ev = ((wasc x.1.2.1 x.2.1.1 x.2.1.2.1 x.2.1.2.2.1).map fun r => some ((((r.1, ()), ((r.2.1, (r.2.2.1, (r.2.2.2, ()))), ()))) : K_zbt.T)).ev := fun _ => by kernel_rfl
theorem wchd : wo wbeh tt wbei wbej wbek := yz (by kernel_rfl)
theorem wbue : FnOK prog wbeh tt 86 D_zbt K_zbt wbei wbej f86 wbek (fun x => wasc x.1.2.1 x.2.1.1 x.2.1.2.1 x.2.1.2.2.1) (fun r => ((r.1, ()), ((r.2.1, (r.2.2.1, (r.2.2.2, ()))), ()))) := yk func86 wchd wchc
theorem waku : waq prog (86, D_zbt) := waf mixed (wab (yc ⟨wmh, yn⟩)) wag wbue
theorem wche : ∀ x : D_zca.T, ((wad wacf tt wacg (waa wach) wxm (entry wbod wboe x)).map (wz tt K_zca)).ev = ((wasd x.1.2.1 x.2.1.1 x.2.1.2.1 x.2.1.2.2.1).map fun r => some ((((((), ((), ())), ()), (r.1, (r.2.1, ((r.2.2.1, (r.2.2.2.1, (r.2.2.2.2, ()))), ()))))) : K_zca.T)).ev := fun _ => by kernel_rfl
noncomputable def wakv : Code := ((wu wxm).find? fun p => Nat.beq p.1 0).elim .skip (·.2)
theorem wbjn : (wot).OK wacf tt wacg (waa wach) wakv := yl (fun _ => rfl) fun _ _ => by kernel_rfl
noncomputable def wakw : Code := ((wu wxm).find? fun p => Nat.beq p.1 4).elim .skip (·.2)
theorem wbjo : (wou).OK wacf tt wacg (waa wach) wakw := yl (fun _ => rfl) fun _ _ => by kernel_rfl
noncomputable def wakx : Code := ((wu wxm).find? fun p => Nat.beq p.1 2).elim .skip (·.2)
theorem wbjp : (wov).OK wacf tt wacg (waa wach) wakx := yl (fun _ => rfl) fun _ _ => by kernel_rfl
theorem wchf : wo wacf tt wacg wach wxm := by
 have h : wu wxm = [(0, wakv), (2, wakx), (4, wakw)] := by kernel_rfl
 unfold wo
 rw [h]
 exact yc ⟨fun d h => (by have e : some (wot) = some d := h; cases e; exact wbjn), yc ⟨fun d h => (by have e : some (wov) = some d := h; cases e; exact wbjp), yc ⟨fun d h => (by have e : some (wou) = some d := h; cases e; exact wbjo), yn⟩⟩⟩
theorem wbuf : FnOK prog wacf tt 168 D_zca K_zca wacg wach f168 wxm (fun x => wasd x.1.2.1 x.2.1.1 x.2.1.2.1 x.2.1.2.2.1) (fun r => ((((), ((), ())), ()), (r.1, (r.2.1, ((r.2.2.1, (r.2.2.2.1, (r.2.2.2.2, ()))), ()))))) := yk func168 wchf wche
theorem wbbh : waq prog (168, D_zca) := waf mixed (wab (yc ⟨waku, yc ⟨wmh, yn⟩⟩)) wag wbuf
theorem wchg : ∀ x : D_zcg.T, ((wad wbel tt wbem (waa wben) wbeo (entry wbof wbog x)).map (wz tt K_zcg)).ev = ((wase x.1.1).map fun r => some (((((), ()), (r, ()))) : K_zcg.T)).ev := fun _ => by kernel_rfl
theorem wchh : wo wbel tt wbem wben wbeo := yz (by kernel_rfl)
theorem wbug : FnOK prog wbel tt 122 D_zcg K_zcg wbem wben f122 wbeo (fun x => wase x.1.1) (fun r => (((), ()), (r, ()))) := yk func122 wchh wchg
theorem wbbi : waq prog (122, D_zcg) := waf mixed (wab (yn)) wag wbug
theorem wchi : ∀ x : D_zcb.T, ((wad wasg tt wash (waa wasi) wagh (entry wboh wboi x)).map (wz tt K_zcb)).ev = ((wasf x.2.1.1 x.2.1.2.1 x.2.1.2.2.1 x.2.2.1 x.2.2.2.1).map fun r => some ((((((), ((), ())), ()), (r.1, (r.2.1, ((r.2.2.1, (r.2.2.2.1, (r.2.2.2.2, ()))), ()))))) : K_zcb.T)).ev := fun _ => by kernel_rfl
noncomputable def waky : Code := ((wu wagh).find? fun p => Nat.beq p.1 1).elim .skip (·.2)
theorem wbjq : (wow).OK wasg tt wash (waa wasi) waky := yl (fun _ => rfl) fun _ _ => by kernel_rfl
theorem wchj : wo wasg tt wash wasi wagh := by
 have h : wu wagh = [(1, waky)] := by kernel_rfl
 unfold wo
 rw [h]
 exact yc ⟨fun d h => (by have e : some (wow) = some d := h; cases e; exact wbjq), yn⟩
theorem wbuh : FnOK prog wasg tt 182 D_zcb K_zcb wash wasi f182 wagh (fun x => wasf x.2.1.1 x.2.1.2.1 x.2.1.2.2.1 x.2.2.1 x.2.2.2.1) (fun r => ((((), ((), ())), ()), (r.1, (r.2.1, ((r.2.2.1, (r.2.2.2.1, (r.2.2.2.2, ()))), ()))))) := yk func182 wchj wchi
theorem wbui : waq prog (182, D_zcb) := waf mixed (wab (yc ⟨wmh, yc ⟨waku, yc ⟨wbbi, yn⟩⟩⟩)) wag wbuh
theorem wchk : ∀ x : D_zcf.T, ((wad wbep tt wbeq (waa wber) wbes (entry wboj wbok x)).map (wz tt K_zcf)).ev = ((wasj x.1.1 x.1.2.1).map fun r => some ((((r, ()), ())) : K_zcf.T)).ev := fun _ => by kernel_rfl
theorem wchl : wo wbep tt wbeq wber wbes := yz (by kernel_rfl)
theorem wbuj : FnOK prog wbep tt 156 D_zcf K_zcf wbeq wber f156 wbes (fun x => wasj x.1.1 x.1.2.1) (fun r => ((r, ()), ())) := yk func156 wchl wchk
theorem wbuk : waq prog (156, D_zcf) := waf mixed (wab (yn)) wag wbuj
theorem wchm : ∀ x : D_zbw.T, ((wad wack tt wacl (waa wacm) wxn (entry wbol wbom x)).map (wz tt K_zbw)).ev = ((wasl x.1.2.1 x.2.1.1 x.2.1.2.1 x.2.1.2.2.1).map fun r => some ((((((), ((), ())), ()), (r.1, (r.2.1, ((r.2.2.1, (r.2.2.2.1, (r.2.2.2.2, ()))), ()))))) : K_zbw.T)).ev := fun _ => by kernel_rfl
noncomputable def wakz : Code := ((wu wxn).find? fun p => Nat.beq p.1 0).elim .skip (·.2)
theorem wbjr : (wox).OK wack tt wacl (waa wacm) wakz := yl (fun _ => rfl) fun _ _ => by kernel_rfl
noncomputable def wala : Code := ((wu wxn).find? fun p => Nat.beq p.1 4).elim .skip (·.2)
theorem wbjs : (woy).OK wack tt wacl (waa wacm) wala := yl (fun _ => rfl) fun _ _ => by kernel_rfl
noncomputable def walb : Code := ((wu wxn).find? fun p => Nat.beq p.1 2).elim .skip (·.2)
theorem wbjt : (woz).OK wack tt wacl (waa wacm) walb := yl (fun _ => rfl) fun _ _ => by kernel_rfl
theorem wchn : wo wack tt wacl wacm wxn := by
 have h : wu wxn = [(0, wakz), (2, walb), (4, wala)] := by kernel_rfl
 unfold wo
 rw [h]
 exact yc ⟨fun d h => (by have e : some (wox) = some d := h; cases e; exact wbjr), yc ⟨fun d h => (by have e : some (woz) = some d := h; cases e; exact wbjt), yc ⟨fun d h => (by have e : some (woy) = some d := h; cases e; exact wbjs), yn⟩⟩⟩
theorem wbul : FnOK prog wack tt 166 D_zbw K_zbw wacl wacm f166 wxn (fun x => wasl x.1.2.1 x.2.1.1 x.2.1.2.1 x.2.1.2.2.1) (fun r => ((((), ((), ())), ()), (r.1, (r.2.1, ((r.2.2.1, (r.2.2.2.1, (r.2.2.2.2, ()))), ()))))) := yk func166 wchn wchm
theorem wbum : waq prog (166, D_zbw) := waf mixed (wab (yc ⟨wbbh, yc ⟨wmh, yc ⟨wbuk, yn⟩⟩⟩)) wag wbul
theorem wcho : ∀ x : D_zco.T, ((wad wasp tt wasq (waa wasr) wagm (entry wbon wboo x)).map (wz tt K_zco)).ev = ((wasn x.1.1.1 x.1.1.2.1).map fun r => some ((((((), ((), ())), ()), (r.1, (r.2, ())))) : K_zco.T)).ev := fun _ => by kernel_rfl
noncomputable def walc : Code := ((wu wagm).find? fun p => Nat.beq p.1 0).elim .skip (·.2)
theorem wbju : (wpa).OK wasp tt wasq (waa wasr) walc := yl (fun _ => rfl) fun _ _ => by kernel_rfl
theorem wchp : wo wasp tt wasq wasr wagm := by
 have h : wu wagm = [(0, walc)] := by kernel_rfl
 unfold wo
 rw [h]
 exact yc ⟨fun d h => (by have e : some (wpa) = some d := h; cases e; exact wbju), yn⟩
theorem wbun : FnOK prog wasp tt 194 D_zco K_zco wasq wasr f194 wagm (fun x => wasn x.1.1.1 x.1.1.2.1) (fun r => ((((), ((), ())), ()), (r.1, (r.2, ())))) := yk func194 wchp wcho
theorem wbuo : waq prog (194, D_zco) := waf mixed (wab (yc ⟨wbbi, yn⟩)) wag wbun
theorem wchq : ∀ x : D_zcm.T, ((wad wxo tt wxp (waa wxq) wuy (entry wbop wboq x)).map (wz tt K_zcm)).ev = ((wass x.1.1.1 x.1.1.2.1).map fun r => some ((((r, ()), ())) : K_zcm.T)).ev := fun _ => by kernel_rfl
noncomputable def wald : Code := ((wu wuy).find? fun p => Nat.beq p.1 6).elim .skip (·.2)
theorem wbjv : (wpb).OK wxo tt wxp (waa wxq) wald := yl (fun _ => rfl) fun _ _ => by kernel_rfl
noncomputable def wale : Code := ((wu wuy).find? fun p => Nat.beq p.1 4).elim .skip (·.2)
theorem wbjw : (wpc).OK wxo tt wxp (waa wxq) wale := yl (fun _ => rfl) fun _ _ => by kernel_rfl
noncomputable def walf : Code := ((wu wuy).find? fun p => Nat.beq p.1 2).elim .skip (·.2)
theorem wbjx : (wpd).OK wxo tt wxp (waa wxq) walf := yl (fun _ => rfl) fun _ _ => by kernel_rfl
noncomputable def walg : Code := ((wu wuy).find? fun p => Nat.beq p.1 0).elim .skip (·.2)
theorem wbjy : (wpe).OK wxo tt wxp (waa wxq) walg := yl (fun _ => rfl) fun _ _ => by kernel_rfl
theorem wchr : wo wxo tt wxp wxq wuy := by
 have h : wu wuy = [(0, walg), (2, walf), (4, wale), (6, wald)] := by kernel_rfl
 unfold wo
 rw [h]
 exact yc ⟨fun d h => (by have e : some (wpe) = some d := h; cases e; exact wbjy), yc ⟨fun d h => (by have e : some (wpd) = some d := h; cases e; exact wbjx), yc ⟨fun d h => (by have e : some (wpc) = some d := h; cases e; exact wbjw), yc ⟨fun d h => (by have e : some (wpb) = some d := h; cases e; exact wbjv), yn⟩⟩⟩⟩
theorem wbup : FnOK prog wxo tt 195 D_zcm K_zcm wxp wxq f195 wuy (fun x => wass x.1.1.1 x.1.1.2.1) (fun r => ((r, ()), ())) := yk func195 wchr wchq
theorem wbuq : waq prog (195, D_zcm) := waf mixed (wab (yn)) wag wbup
theorem wchs : ∀ x : D_zce.T, ((wad wbet tt wbeu (waa wbev) wbew (entry wbor wbos x)).map (wz tt K_zce)).ev = ((wasu x.1.1 x.1.2.1).map fun r => some ((((r, ()), ())) : K_zce.T)).ev := fun _ => by kernel_rfl
theorem wcht : wo wbet tt wbeu wbev wbew := yz (by kernel_rfl)
theorem wbur : FnOK prog wbet tt 157 D_zce K_zce wbeu wbev f157 wbew (fun x => wasu x.1.1 x.1.2.1) (fun r => ((r, ()), ())) := yk func157 wcht wchs
theorem wbus : waq prog (157, D_zce) := waf mixed (wab (yn)) wag wbur
theorem wchu : ∀ x : D_zck.T, ((wad wuz tt wva (waa wvb) wpo (entry wbot wbou x)).map (wz tt K_zck)).ev = ((wasw x.1.1.1 x.1.1.2.1).map fun r => some ((((((), ((), ())), ()), (r.1, (r.2, ())))) : K_zck.T)).ev := fun _ => by kernel_rfl
noncomputable def walh : Code := ((wu wpo).find? fun p => Nat.beq p.1 8).elim .skip (·.2)
theorem wbjz : (wpg).OK wuz tt wva (waa wvb) walh := yl (fun _ => rfl) fun _ _ => by kernel_rfl
noncomputable def wali : Code := ((wu wpo).find? fun p => Nat.beq p.1 6).elim .skip (·.2)
theorem wbka : (wph).OK wuz tt wva (waa wvb) wali := yl (fun _ => rfl) fun _ _ => by kernel_rfl
noncomputable def walj : Code := ((wu wpo).find? fun p => Nat.beq p.1 4).elim .skip (·.2)
theorem wbkb : (wpi).OK wuz tt wva (waa wvb) walj := yl (fun _ => rfl) fun _ _ => by kernel_rfl
noncomputable def walm : Code := ((wu wpo).find? fun p => Nat.beq p.1 2).elim .skip (·.2)
theorem wbkc : (wpj).OK wuz tt wva (waa wvb) walm := yl (fun _ => rfl) fun _ _ => by kernel_rfl
noncomputable def waln : Code := ((wu wpo).find? fun p => Nat.beq p.1 0).elim .skip (·.2)
theorem wbkd : (wpn).OK wuz tt wva (waa wvb) waln := yl (fun _ => rfl) fun _ _ => by kernel_rfl
theorem wchv : wo wuz tt wva wvb wpo := by
 have h : wu wpo = [(0, waln), (2, walm), (4, walj), (6, wali), (8, walh)] := by kernel_rfl
 unfold wo
 rw [h]
 exact yc ⟨fun d h => (by have e : some (wpn) = some d := h; cases e; exact wbkd), yc ⟨fun d h => (by have e : some (wpj) = some d := h; cases e; exact wbkc), yc ⟨fun d h => (by have e : some (wpi) = some d := h; cases e; exact wbkb), yc ⟨fun d h => (by have e : some (wph) = some d := h; cases e; exact wbka), yc ⟨fun d h => (by have e : some (wpg) = some d := h; cases e; exact wbjz), yn⟩⟩⟩⟩⟩
theorem wbut : FnOK prog wuz tt 167 D_zck K_zck wva wvb f167 wpo (fun x => wasw x.1.1.1 x.1.1.2.1) (fun r => ((((), ((), ())), ()), (r.1, (r.2, ())))) := yk func167 wchv wchu
theorem wbuu : waq prog (167, D_zck) := waf mixed (wab (yc ⟨wbuo, yc ⟨wbuq, yc ⟨wbus, yn⟩⟩⟩)) wag wbut
theorem wchw : ∀ x : D_zbv.T, ((wad wbey tt wbez (waa wbfa) wbfb (entry wbov wbow x)).map (wz tt K_zbv)).ev = ((wasy x.1.2.1 x.2.1.1 x.2.1.2.1 x.2.1.2.2.1).map fun r => some ((((((), ((), ())), ()), (r.1, (r.2.1, ((r.2.2.1, (r.2.2.2.1, (r.2.2.2.2, ()))), ()))))) : K_zbv.T)).ev := fun _ => by kernel_rfl
theorem wchx : wo wbey tt wbez wbfa wbfb := yz (by kernel_rfl)
theorem wbuv : FnOK prog wbey tt 138 D_zbv K_zbv wbez wbfa f138 wbfb (fun x => wasy x.1.2.1 x.2.1.1 x.2.1.2.1 x.2.1.2.2.1) (fun r => ((((), ((), ())), ()), (r.1, (r.2.1, ((r.2.2.1, (r.2.2.2.1, (r.2.2.2.2, ()))), ()))))) := yk func138 wchx wchw
theorem wbuw : waq prog (138, D_zbv) := waf mixed (wab (yc ⟨wmh, yc ⟨wbbh, yc ⟨wbui, yc ⟨wbum, yc ⟨wbuu, yn⟩⟩⟩⟩⟩)) wag wbuv
theorem wchy : ∀ x : D_zbu.T, ((wad wbfc tt wbfd (waa wbfe) wbff (entry wbox wboy x)).map (wz tt K_zbu)).ev = ((wasz x.2.1.1 x.2.1.2.1 x.2.1.2.2.1).map fun r => some ((((((), ((), ())), ()), (r.1, (r.2.1, ((r.2.2.1, (r.2.2.2.1, (r.2.2.2.2, ()))), ()))))) : K_zbu.T)).ev := fun _ => by kernel_rfl
theorem wchz : wo wbfc tt wbfd wbfe wbff := yz (by kernel_rfl)
theorem wbux : FnOK prog wbfc tt 82 D_zbu K_zbu wbfd wbfe f82 wbff (fun x => wasz x.2.1.1 x.2.1.2.1 x.2.1.2.2.1) (fun r => ((((), ((), ())), ()), (r.1, (r.2.1, ((r.2.2.1, (r.2.2.2.1, (r.2.2.2.2, ()))), ()))))) := yk func82 wchz wchy
theorem wbuy : waq prog (82, D_zbu) := waf mixed (wab (yc ⟨wbuw, yn⟩)) wag wbux
theorem wcia : ∀ x : D_zcd.T, ((wad wbfg tt wbfh (waa wbfi) wbfj (entry wboz wbpa x)).map (wz tt K_zcd)).ev = ((watb x.1.1 x.1.2.1 x.1.2.2.1).map fun r => some ((((r, ()), ())) : K_zcd.T)).ev := fun _ => by kernel_rfl
theorem wcib : wo wbfg tt wbfh wbfi wbfj := yz (by kernel_rfl)
theorem wbuz : FnOK prog wbfg tt 126 D_zcd K_zcd wbfh wbfi f126 wbfj (fun x => watb x.1.1 x.1.2.1 x.1.2.2.1) (fun r => ((r, ()), ())) := yk func126 wcib wcia
theorem walo : waq prog (126, D_zcd) := waf mixed (wab (yn)) wag wbuz
theorem wcic : ∀ x : D_zcp.T, ((wad watd tt wate (waa watf) wagx (entry wbpb wbpc x)).map (wz tt K_zcp)).ev = ((watc x.1.1 x.1.2.1 x.1.2.2.1).map fun r => some ((((r, ()), ())) : K_zcp.T)).ev := fun _ => by kernel_rfl
noncomputable def walp : Code := ((wu wagx).find? fun p => Nat.beq p.1 0).elim .skip (·.2)
theorem wbke : (wpp).OK watd tt wate (waa watf) walp := yl (fun _ => rfl) fun _ _ => by kernel_rfl
theorem wcid : wo watd tt wate watf wagx := by
 have h : wu wagx = [(0, walp)] := by kernel_rfl
 unfold wo
 rw [h]
 exact yc ⟨fun d h => (by have e : some (wpp) = some d := h; cases e; exact wbke), yn⟩
theorem wbva : FnOK prog watd tt 149 D_zcp K_zcp wate watf f149 wagx (fun x => watc x.1.1 x.1.2.1 x.1.2.2.1) (fun r => ((r, ()), ())) := yk func149 wcid wcic
theorem wbvb : waq prog (149, D_zcp) := waf mixed (wab (yc ⟨walo, yn⟩)) wag wbva
theorem wcie : ∀ x : D_zcl.T, ((wad wath tt wati (waa watj) waha (entry wbpd wbpe x)).map (wz tt K_zcl)).ev = ((watg x.1.1.1 x.1.1.2.1).map fun r => some ((((r, ()), ())) : K_zcl.T)).ev := fun _ => by kernel_rfl
noncomputable def walq : Code := ((wu waha).find? fun p => Nat.beq p.1 0).elim .skip (·.2)
theorem wbkf : (wpq).OK wath tt wati (waa watj) walq := yl (fun _ => rfl) fun _ _ => by kernel_rfl
theorem wcif : wo wath tt wati watj waha := by
 have h : wu waha = [(0, walq)] := by kernel_rfl
 unfold wo
 rw [h]
 exact yc ⟨fun d h => (by have e : some (wpq) = some d := h; cases e; exact wbkf), yn⟩
theorem wbvc : FnOK prog wath tt 94 D_zcl K_zcl wati watj f94 waha (fun x => watg x.1.1.1 x.1.1.2.1) (fun r => ((r, ()), ())) := yk func94 wcif wcie
theorem wbbj : waq prog (94, D_zcl) := waf mixed (wab (yc ⟨wbvb, yc ⟨walo, yn⟩⟩)) wag wbvc
theorem wcig : ∀ x : D_zcu.T, ((wad wbfk tt wbfl (waa wbfm) wbfn (entry wbpf wbpg x)).map (wz tt K_zcu)).ev = ((watk x.1.1.1 x.1.1.2.1 x.1.2.1).map fun r => some ((((r, ()), ())) : K_zcu.T)).ev := fun _ => by kernel_rfl
theorem wcih : wo wbfk tt wbfl wbfm wbfn := yz (by kernel_rfl)
theorem wbvd : FnOK prog wbfk tt 140 D_zcu K_zcu wbfl wbfm f140 wbfn (fun x => watk x.1.1.1 x.1.1.2.1 x.1.2.1) (fun r => ((r, ()), ())) := yk func140 wcih wcig
theorem wbve : waq prog (140, D_zcu) := waf mixed (wab (yc ⟨wbbj, yc ⟨walo, yn⟩⟩)) wag wbvd
theorem wcii : ∀ x : D_zcc.T, ((wad watn tt wato (waa watp) wahd (entry wbph wbpi x)).map (wz tt K_zcc)).ev = ((watm x.1.1 x.1.2.1).map fun r => some ((((r, ()), ())) : K_zcc.T)).ev := fun _ => by kernel_rfl
noncomputable def walr : Code := ((wu wahd).find? fun p => Nat.beq p.1 0).elim .skip (·.2)
theorem wbkg : (wpr).OK watn tt wato (waa watp) walr := yl (fun _ => rfl) fun _ _ => by kernel_rfl
theorem wcij : wo watn tt wato watp wahd := by
 have h : wu wahd = [(0, walr)] := by kernel_rfl
 unfold wo
 rw [h]
 exact yc ⟨fun d h => (by have e : some (wpr) = some d := h; cases e; exact wbkg), yn⟩
theorem wbvf : FnOK prog watn tt 116 D_zcc K_zcc wato watp f116 wahd (fun x => watm x.1.1 x.1.2.1) (fun r => ((r, ()), ())) := yk func116 wcij wcii
theorem wbbk : waq prog (116, D_zcc) := waf mixed (wab (yn)) wag wbvf
theorem wcik : ∀ x : D_zch.T, ((wad watr tt wats (waa watt) wahe (entry wbpj wbpk x)).map (wz tt K_zch)).ev = ((watq x.1.1 x.1.2.1).map fun r => some ((((r, ()), ())) : K_zch.T)).ev := fun _ => by kernel_rfl
noncomputable def wals : Code := ((wu wahe).find? fun p => Nat.beq p.1 0).elim .skip (·.2)
theorem wbkh : (wps).OK watr tt wats (waa watt) wals := yl (fun _ => rfl) fun _ _ => by kernel_rfl
theorem wcil : wo watr tt wats watt wahe := by
 have h : wu wahe = [(0, wals)] := by kernel_rfl
 unfold wo
 rw [h]
 exact yc ⟨fun d h => (by have e : some (wps) = some d := h; cases e; exact wbkh), yn⟩
theorem wbvg : FnOK prog watr tt 96 D_zch K_zch wats watt f96 wahe (fun x => watq x.1.1 x.1.2.1) (fun r => ((r, ()), ())) := yk func96 wcil wcik
theorem wbbl : waq prog (96, D_zch) := waf mixed (wab (yn)) wag wbvg
theorem wcim : ∀ x : D_zcs.T, ((wad watw tt watx (waa waty) wahf (entry wbpl wbpm x)).map (wz tt K_zcs)).ev = ((watu x.1.1.1 x.1.1.2.1 x.1.2.1 x.1.2.2.1).map fun r => some ((((r, ()), ())) : K_zcs.T)).ev := fun _ => by kernel_rfl
noncomputable def walt : Code := ((wu wahf).find? fun p => Nat.beq p.1 0).elim .skip (·.2)
theorem wbki : (wpu).OK watw tt watx (waa waty) walt := yl (fun _ => rfl) fun _ _ => by kernel_rfl
theorem wcin : wo watw tt watx waty wahf := by
 have h : wu wahf = [(0, walt)] := by kernel_rfl
 unfold wo
 rw [h]
 exact yc ⟨fun d h => (by have e : some (wpu) = some d := h; cases e; exact wbki), yn⟩
theorem wbvh : FnOK prog watw tt 190 D_zcs K_zcs watx waty f190 wahf (fun x => watu x.1.1.1 x.1.1.2.1 x.1.2.1 x.1.2.2.1) (fun r => ((r, ()), ())) := yk func190 wcin wcim
theorem wbvi : waq prog (190, D_zcs) := waf mixed (wab (yn)) wag wbvh
theorem wcio : ∀ x : D_zcn.T, ((wad wbfo tt wbfp (waa wbfq) wbfr (entry wbpn wbpo x)).map (wz tt K_zcn)).ev = ((watz x.1.1.1 x.1.1.2.1 x.1.2.1 x.1.2.2.1).map fun r => some ((((r, ()), ())) : K_zcn.T)).ev := fun _ => by kernel_rfl
theorem wcip : wo wbfo tt wbfp wbfq wbfr := yz (by kernel_rfl)
theorem wbvj : FnOK prog wbfo tt 150 D_zcn K_zcn wbfp wbfq f150 wbfr (fun x => watz x.1.1.1 x.1.1.2.1 x.1.2.1 x.1.2.2.1) (fun r => ((r, ()), ())) := yk func150 wcip wcio
theorem wbvk : waq prog (150, D_zcn) := waf mixed (wab (yc ⟨wbvi, yn⟩)) wag wbvj
theorem wciq : ∀ x : D_zcq.T, ((wad wauc tt waud (waa waue) wahh (entry wbpp wbpq x)).map (wz tt K_zcq)).ev = ((waub x.1.1.1 x.1.1.2.1 x.1.2.1).map fun r => some ((((r, ()), ())) : K_zcq.T)).ev := fun _ => by kernel_rfl
noncomputable def walu : Code := ((wu wahh).find? fun p => Nat.beq p.1 0).elim .skip (·.2)
theorem wbkj : (wpv).OK wauc tt waud (waa waue) walu := yl (fun _ => rfl) fun _ _ => by kernel_rfl
theorem wcir : wo wauc tt waud waue wahh := by
 have h : wu wahh = [(0, walu)] := by kernel_rfl
 unfold wo
 rw [h]
 exact yc ⟨fun d h => (by have e : some (wpv) = some d := h; cases e; exact wbkj), yn⟩
theorem wbvl : FnOK prog wauc tt 97 D_zcq K_zcq waud waue f97 wahh (fun x => waub x.1.1.1 x.1.1.2.1 x.1.2.1) (fun r => ((r, ()), ())) := yk func97 wcir wciq
theorem walv : waq prog (97, D_zcq) := waf mixed (wab (yc ⟨wbvk, yn⟩)) wag wbvl
theorem wcis : ∀ x : D_zbp.T, ((wad wahk tt wahl (waa wahm) waco (entry wbpr wbps x)).map (wz tt K_zbp)).ev = ((wauf x.1.1.1 x.1.1.2.1 x.1.2.1).map fun r => some (((((), (r.1, ())), (r.2, ()))) : K_zbp.T)).ev := fun _ => by kernel_rfl
noncomputable def walw : Code := ((wu waco).find? fun p => Nat.beq p.1 2).elim .skip (·.2)
theorem wbkk : (wpx).OK wahk tt wahl (waa wahm) walw := yl (fun _ => rfl) fun _ _ => by kernel_rfl
noncomputable def walx : Code := ((wu waco).find? fun p => Nat.beq p.1 0).elim .skip (·.2)
theorem wbkl : (wpy).OK wahk tt wahl (waa wahm) walx := yl (fun _ => rfl) fun _ _ => by kernel_rfl
theorem wcit : wo wahk tt wahl wahm waco := by
 have h : wu waco = [(0, walx), (2, walw)] := by kernel_rfl
 unfold wo
 rw [h]
 exact yc ⟨fun d h => (by have e : some (wpy) = some d := h; cases e; exact wbkl), yc ⟨fun d h => (by have e : some (wpx) = some d := h; cases e; exact wbkk), yn⟩⟩
theorem wbvm : FnOK prog wahk tt 84 D_zbp K_zbp wahl wahm f84 waco (fun x => wauf x.1.1.1 x.1.1.2.1 x.1.2.1) (fun r => (((), (r.1, ())), (r.2, ()))) := yk func84 wcit wcis
theorem wbvn : waq prog (84, D_zbp) := waf mixed (wab (yc ⟨wbve, yc ⟨wbbk, yc ⟨wbbl, yc ⟨walv, yn⟩⟩⟩⟩)) wag wbvm
theorem wciu : ∀ x : D_zby.T, ((wad wbfs tt wbft (waa wbfu) wbfv (entry wbpt wbpu x)).map (wz tt K_zby)).ev = ((wauh x.1.2.1 x.2.1.1 x.2.1.2.1 x.2.1.2.2.1).map fun r => some ((((r.1, ()), ((r.2.1, (r.2.2.1, (r.2.2.2, ()))), ()))) : K_zby.T)).ev := fun _ => by kernel_rfl
theorem wciv : wo wbfs tt wbft wbfu wbfv := yz (by kernel_rfl)
theorem wbvo : FnOK prog wbfs tt 85 D_zby K_zby wbft wbfu f85 wbfv (fun x => wauh x.1.2.1 x.2.1.1 x.2.1.2.1 x.2.1.2.2.1) (fun r => ((r.1, ()), ((r.2.1, (r.2.2.1, (r.2.2.2, ()))), ()))) := yk func85 wciv wciu
theorem wbvp : waq prog (85, D_zby) := waf mixed (wab (yc ⟨wmh, yn⟩)) wag wbvo
theorem wciw : ∀ x : D_zbo.T, ((wad wauk tt waul (waa waum) waho (entry wbpv wbpw x)).map (wz tt K_zbo)).ev = ((waui x.1.1).map fun r => some ((((((), ((), ())), ((), ())), (r.1, (r.2.1, (r.2.2, ()))))) : K_zbo.T)).ev := fun _ => by kernel_rfl
noncomputable def waly : Code := ((wu waho).find? fun p => Nat.beq p.1 0).elim .skip (·.2)
theorem wbkm : (wpz).OK wauk tt waul (waa waum) waly := yl (fun _ => rfl) fun _ _ => by kernel_rfl
theorem wcix : wo wauk tt waul waum waho := by
 have h : wu waho = [(0, waly)] := by kernel_rfl
 unfold wo
 rw [h]
 exact yc ⟨fun d h => (by have e : some (wpz) = some d := h; cases e; exact wbkm), yn⟩
theorem wbvq : FnOK prog wauk tt 26 D_zbo K_zbo waul waum f26 waho (fun x => waui x.1.1) (fun r => ((((), ((), ())), ((), ())), (r.1, (r.2.1, (r.2.2, ()))))) := yk func26 wcix wciw
theorem wbvr : waq prog (26, D_zbo) := waf mixed (wab (yc ⟨wbuy, yc ⟨wmh, yc ⟨wbvn, yc ⟨wbvp, yc ⟨waku, yn⟩⟩⟩⟩⟩)) wag wbvq
theorem e_zw : ∀ x : D_zw.T, ((wad E_zw tt Z_zw (waa O_zw) C_zw (entry A_zw I_zw x)).map (wz tt K_zw)).ev = ((T_zw x.1.1 x.1.2.1 x.1.2.2.1).map fun r => some ((((r, ()), ())) : K_zw.T)).ev := fun _ => by kernel_rfl
theorem o_zw : wo E_zw tt Z_zw O_zw C_zw := yz (by kernel_rfl)
theorem wciy : FnOK prog E_zw tt 67 D_zw K_zw Z_zw O_zw f67 C_zw (fun x => T_zw x.1.1 x.1.2.1 x.1.2.2.1) (fun r => ((r, ()), ())) := yk func67 o_zw e_zw
theorem wayl : waq prog (67, D_zw) := waf mixed (wab (yn)) wag wciy
theorem wciz : ∀ x : D_zar.T, ((wad waup tt wauq (waa waur) wahq (entry wbpx wbpy x)).map (wz tt K_zar)).ev = ((waun x.1.1 x.1.2.1).map fun r => some ((((r, ()), ())) : K_zar.T)).ev := fun _ => by kernel_rfl
noncomputable def walz : Code := ((wu wahq).find? fun p => Nat.beq p.1 0).elim .skip (·.2)
theorem wbkn : (wqa).OK waup tt wauq (waa waur) walz := yl (fun _ => rfl) fun _ _ => by kernel_rfl
theorem wcja : wo waup tt wauq waur wahq := by
 have h : wu wahq = [(0, walz)] := by kernel_rfl
 unfold wo
 rw [h]
 exact yc ⟨fun d h => (by have e : some (wqa) = some d := h; cases e; exact wbkn), yn⟩
theorem wbvs : FnOK prog waup tt 164 D_zar K_zar wauq waur f164 wahq (fun x => waun x.1.1 x.1.2.1) (fun r => ((r, ()), ())) := yk func164 wcja wciz
theorem wbvt : waq prog (164, D_zar) := waf mixed (wab (yn)) wag wbvs
theorem wcjb : ∀ x : D_zao.T, ((wad wbfx tt wbfy (waa wbfz) wbga (entry wbpz wbqa x)).map (wz tt K_zao)).ev = ((waus x.1.1 x.1.2.1).map fun r => some ((((r, ()), ())) : K_zao.T)).ev := fun _ => by kernel_rfl
theorem wcjc : wo wbfx tt wbfy wbfz wbga := yz (by kernel_rfl)
theorem wbvu : FnOK prog wbfx tt 183 D_zao K_zao wbfy wbfz f183 wbga (fun x => waus x.1.1 x.1.2.1) (fun r => ((r, ()), ())) := yk func183 wcjc wcjb
theorem wbbm : waq prog (183, D_zao) := waf mixed (wab (yc ⟨wbvt, yn⟩)) wag wbvu
theorem e_zt : ∀ x : D_zt.T, ((wad E_zt tt Z_zt (waa O_zt) C_zt (entry A_zt I_zt x)).map (wz tt K_zt)).ev = ((T_zt x.1.1 x.1.2.1.1 x.1.2.2.1.1).map fun r => some ((((r, ()), ())) : K_zt.T)).ev := fun _ => by kernel_rfl
theorem o_zt : wo E_zt tt Z_zt O_zt C_zt := yz (by kernel_rfl)
theorem wcjd : FnOK prog E_zt tt 184 D_zt K_zt Z_zt O_zt f184 C_zt (fun x => T_zt x.1.1 x.1.2.1.1 x.1.2.2.1.1) (fun r => ((r, ()), ())) := yk func184 o_zt e_zt
theorem wcje : waq prog (184, D_zt) := waf mixed (wab (yc ⟨wayl, yn⟩)) wag wcjd
theorem e_zs : ∀ x : D_zs.T, ((wad E_zs tt Z_zs (waa O_zs) C_zs (entry A_zs I_zs x)).map (wz tt K_zs)).ev = ((T_zs x.1.1 x.1.2.1 x.1.2.2.1).map fun r => some ((((r, ()), ())) : K_zs.T)).ev := fun _ => by kernel_rfl
theorem o_zs : wo E_zs tt Z_zs O_zs C_zs := yz (by kernel_rfl)
theorem wcjf : FnOK prog E_zs tt 141 D_zs K_zs Z_zs O_zs f141 C_zs (fun x => T_zs x.1.1 x.1.2.1 x.1.2.2.1) (fun r => ((r, ()), ())) := yk func141 o_zs e_zs
theorem wbvv : waq prog (141, D_zs) := waf mixed (wab (yc ⟨wbbm, yc ⟨wbbm, yc ⟨wcje, yn⟩⟩⟩)) wag wcjf
theorem wcjg : ∀ x : D_zaq.T, ((wad wauv tt wauw (waa waux) waht (entry wbqc wbqd x)).map (wz tt K_zaq)).ev = ((wauu x.1.1 x.1.2.1).map fun r => some ((((r, ()), ())) : K_zaq.T)).ev := fun _ => by kernel_rfl
noncomputable def wama : Code := ((wu waht).find? fun p => Nat.beq p.1 0).elim .skip (·.2)
theorem wbko : (wqb).OK wauv tt wauw (waa waux) wama := yl (fun _ => rfl) fun _ _ => by kernel_rfl
theorem wcjh : wo wauv tt wauw waux waht := by
 have h : wu waht = [(0, wama)] := by kernel_rfl
 unfold wo
 rw [h]
 exact yc ⟨fun d h => (by have e : some (wqb) = some d := h; cases e; exact wbko), yn⟩
theorem wbvw : FnOK prog wauv tt 185 D_zaq K_zaq wauw waux f185 waht (fun x => wauu x.1.1 x.1.2.1) (fun r => ((r, ()), ())) := yk func185 wcjh wcjg
theorem wbbn : waq prog (185, D_zaq) := waf mixed (wab (yn)) wag wbvw
theorem wcji : ∀ x : D_zan.T, ((wad wbgb tt wbgc (waa wbgd) wbge (entry wbqe wbqf x)).map (wz tt K_zan)).ev = ((wauy x.1.1 x.1.2.1).map fun r => some ((((r, ()), ())) : K_zan.T)).ev := fun _ => by kernel_rfl
theorem wcjj : wo wbgb tt wbgc wbgd wbge := yz (by kernel_rfl)
theorem wbvx : FnOK prog wbgb tt 142 D_zan K_zan wbgc wbgd f142 wbge (fun x => wauy x.1.1 x.1.2.1) (fun r => ((r, ()), ())) := yk func142 wcjj wcji
theorem wbbo : waq prog (142, D_zan) := waf mixed (wab (yc ⟨wbbn, yn⟩)) wag wbvx
theorem e_zn : ∀ x : D_zn.T, ((wad E_zn tt Z_zn (waa O_zn) C_zn (entry A_zn I_zn x)).map (wz tt K_zn)).ev = ((T_zn x.1.1 x.1.2.1.1 x.1.2.1.2.1).map fun r => some ((((r, ()), ())) : K_zn.T)).ev := fun _ => by kernel_rfl
theorem o_zn : wo E_zn tt Z_zn O_zn C_zn := yz (by kernel_rfl)
theorem wcjk : FnOK prog E_zn tt 143 D_zn K_zn Z_zn O_zn f143 C_zn (fun x => T_zn x.1.1 x.1.2.1.1 x.1.2.1.2.1) (fun r => ((r, ()), ())) := yk func143 o_zn e_zn
theorem wcjl : waq prog (143, D_zn) := waf mixed (wab (yc ⟨wbvv, yn⟩)) wag wcjk
theorem e_zm : ∀ x : D_zm.T, ((wad E_zm tt Z_zm (waa O_zm) C_zm (entry A_zm I_zm x)).map (wz tt K_zm)).ev = ((T_zm x.1.1.1 x.1.1.2.1).map fun r => some ((((r, ()), ())) : K_zm.T)).ev := fun _ => by kernel_rfl
theorem o_zm : wo E_zm tt Z_zm O_zm C_zm := yz (by kernel_rfl)
theorem wcjm : FnOK prog E_zm tt 87 D_zm K_zm Z_zm O_zm f87 C_zm (fun x => T_zm x.1.1.1 x.1.1.2.1) (fun r => ((r, ()), ())) := yk func87 o_zm e_zm
theorem wbkp : waq prog (87, D_zm) := waf mixed (wab (yc ⟨wayl, yc ⟨wbvv, yc ⟨wbbo, yc ⟨wbbo, yc ⟨wcjl, yn⟩⟩⟩⟩⟩)) wag wcjm
theorem wbbp : waq prog (93, wbgf) := wxl
theorem wbvy : waq prog (146, wbqg) := wux
theorem wcjn : ∀ x : D_zak.T, ((wad wbgh tt wbgi (waa wbgj) wbgk (entry wbqh wbqi x)).map (wz tt K_zak)).ev = ((wahu x.1.1).map fun r => some ((((r, ()), ())) : K_zak.T)).ev := fun _ => by kernel_rfl
theorem wcjo : wo wbgh tt wbgi wbgj wbgk := yz (by kernel_rfl)
theorem wbvz : FnOK prog wbgh tt 212 D_zak K_zak wbgi wbgj f212 wbgk (fun x => wahu x.1.1) (fun r => ((r, ()), ())) := yk func212 wcjo wcjn
theorem wbwa : waq prog (212, D_zak) := waf mixed (wab (yn)) wag wbvz
theorem wcjp : ∀ x : D_zaj.T, ((wad wbgl tt wbgm (waa wbgn) wbgo (entry wbqj wbqk x)).map (wz tt K_zaj)).ev = ((wahv x.1.1).map fun r => some ((((r, ()), ())) : K_zaj.T)).ev := fun _ => by kernel_rfl
theorem wcjq : wo wbgl tt wbgm wbgn wbgo := yz (by kernel_rfl)
theorem wbwb : FnOK prog wbgl tt 189 D_zaj K_zaj wbgm wbgn f189 wbgo (fun x => wahv x.1.1) (fun r => ((r, ()), ())) := yk func189 wcjq wcjp
theorem wamb : waq prog (189, D_zaj) := waf mixed (wab (yc ⟨wbwa, yn⟩)) wag wbwb
theorem e_zd : ∀ x : D_zd.T, ((wad E_zd tt Z_zd (waa O_zd) C_zd (entry A_zd I_zd x)).map (wz tt K_zd)).ev = ((T_zd x.1.1).map fun r => some ((((r, ()), ())) : K_zd.T)).ev := fun _ => by kernel_rfl
theorem o_zd : wo E_zd tt Z_zd O_zd C_zd := yz (by kernel_rfl)
theorem wcjr : FnOK prog E_zd tt 193 D_zd K_zd Z_zd O_zd f193 C_zd (fun x => T_zd x.1.1) (fun r => ((r, ()), ())) := yk func193 o_zd e_zd
theorem wbwc : waq prog (193, D_zd) := waf mixed (wab (yn)) wag wcjr
theorem e_zb : ∀ x : D_zb.T, ((wad E_zb tt Z_zb (waa O_zb) C_zb (entry A_zb I_zb x)).map (wz tt K_zb)).ev = ((T_zb x.1.1 x.1.2.1).map fun r => some ((((r, ()), ())) : K_zb.T)).ev := fun _ => by kernel_rfl
theorem o_zb : wo E_zb tt Z_zb O_zb C_zb := yz (by kernel_rfl)
theorem wcjs : FnOK prog E_zb tt 208 D_zb K_zb Z_zb O_zb f208 C_zb (fun x => T_zb x.1.1 x.1.2.1) (fun r => ((r, ()), ())) := yk func208 o_zb e_zb
theorem waym : waq prog (208, D_zb) := waf mixed (wab (yc ⟨wbwc, yn⟩)) wag wcjs
theorem wcjt : ∀ x : D_zbb.T, ((wad wahy tt wahz (waa waia) wacp (entry wbql wbqm x)).map (wz tt K_zbb)).ev = ((wavc x.1.2.1 x.1.2.2.1 x.2.1).map fun r => some ((((), (r, ()))) : K_zbb.T)).ev := fun _ => by kernel_rfl
noncomputable def wamc : Code := ((wu wacp).find? fun p => Nat.beq p.1 2).elim .skip (·.2)
theorem wbkq : (wqc).OK wahy tt wahz (waa waia) wamc := yl (fun _ => rfl) fun _ _ => by kernel_rfl
noncomputable def wamd : Code := ((wu wacp).find? fun p => Nat.beq p.1 0).elim .skip (·.2)
theorem wbkr : (wqd).OK wahy tt wahz (waa waia) wamd := yl (fun _ => rfl) fun _ _ => by kernel_rfl
theorem wcju : wo wahy tt wahz waia wacp := by
 have h : wu wacp = [(0, wamd), (2, wamc)] := by kernel_rfl
 unfold wo
 rw [h]
 exact yc ⟨fun d h => (by have e : some (wqd) = some d := h; cases e; exact wbkr), yc ⟨fun d h => (by have e : some (wqc) = some d := h; cases e; exact wbkq), yn⟩⟩
theorem wbwd : FnOK prog wahy tt 202 D_zbb K_zbb wahz waia f202 wacp (fun x => wavc x.1.2.1 x.1.2.2.1 x.2.1) (fun r => ((), (r, ()))) := yk func202 wcju wcjt
theorem wbwe : waq prog (202, D_zbb) := waf mixed (wab (yc ⟨waym, yn⟩)) wag wbwd
theorem wcjv : ∀ x : D_zbg.T, ((wad wbgp tt wbgq (waa wbgr) wbgs (entry wbqn wbqo x)).map (wz tt K_zbg)).ev = ((waib x.1.1).map fun r => some ((((r, ()), ())) : K_zbg.T)).ev := fun _ => by kernel_rfl
theorem wcjw : wo wbgp tt wbgq wbgr wbgs := yz (by kernel_rfl)
theorem wbwf : FnOK prog wbgp tt 224 D_zbg K_zbg wbgq wbgr f224 wbgs (fun x => waib x.1.1) (fun r => ((r, ()), ())) := yk func224 wcjw wcjv
theorem wbbq : waq prog (224, D_zbg) := waf mixed (wab (yc ⟨wamb, yn⟩)) wag wbwf
theorem wcjx : ∀ x : D_zbn.T, ((wad wbgt tt wbgu (waa wbgv) wbgw (entry wbqp wbqq x)).map (wz tt K_zbn)).ev = ((waid x.2.1.1).map fun r => some ((((r.1, ()), ((r.2, ()), ()))) : K_zbn.T)).ev := fun _ => by kernel_rfl
theorem wcjy : wo wbgt tt wbgu wbgv wbgw := yz (by kernel_rfl)
theorem wbwg : FnOK prog wbgt tt 225 D_zbn K_zbn wbgu wbgv f225 wbgw (fun x => waid x.2.1.1) (fun r => ((r.1, ()), ((r.2, ()), ()))) := yk func225 wcjy wcjx
theorem wbbr : waq prog (225, D_zbn) := waf mixed (wab (yn)) wag wbwg
theorem wcjz : ∀ x : D_zax.T, ((wad wavd tt wave (waa wavf) waig (entry wbqs wbqt x)).map (wz tt K_zax)).ev = ((wbgy x.1.2.1 x.1.2.2.1 x.2.1).map fun r => some ((((), (r, ()))) : K_zax.T)).ev := fun _ => by kernel_rfl
noncomputable def wame : Code := ((wu waig).find? fun p => Nat.beq p.1 0).elim .skip (·.2)
theorem wbks : (wqe).OK wavd tt wave (waa wavf) wame := yl (fun _ => rfl) fun _ _ => by kernel_rfl
theorem wcka : wo wavd tt wave wavf waig := by
 have h : wu waig = [(0, wame)] := by kernel_rfl
 unfold wo
 rw [h]
 exact yc ⟨fun d h => (by have e : some (wqe) = some d := h; cases e; exact wbks), yn⟩
theorem wbwh : FnOK prog wavd tt 204 D_zax K_zax wave wavf f204 waig (fun x => wbgy x.1.2.1 x.1.2.2.1 x.2.1) (fun r => ((), (r, ()))) := yk func204 wcka wcjz
theorem wbwi : waq prog (204, D_zax) := waf mixed (wab (yc ⟨wbbq, yc ⟨wbbr, yn⟩⟩)) wag wbwh
theorem wckb : ∀ x : D_zbi.T, ((wad wbha tt wbhb (waa wbhc) wbhd (entry wbqu wbqv x)).map (wz tt K_zbi)).ev = ((wbgz x.1.1 x.1.2.1 x.1.2.2.1 x.2.1.1).map fun r => some ((((r.1, (r.2.1, ())), ((r.2.2, ()), ()))) : K_zbi.T)).ev := fun _ => by kernel_rfl
theorem wckc : wo wbha tt wbhb wbhc wbhd := yz (by kernel_rfl)
theorem wbwj : FnOK prog wbha tt 232 D_zbi K_zbi wbhb wbhc f232 wbhd (fun x => wbgz x.1.1 x.1.2.1 x.1.2.2.1 x.2.1.1) (fun r => ((r.1, (r.2.1, ())), ((r.2.2, ()), ()))) := yk func232 wckc wckb
theorem wbwk : waq prog (232, D_zbi) := waf mixed (wab (yc ⟨waym, yn⟩)) wag wbwj
theorem wckd : ∀ x : D_zbf.T, ((wad wbhf tt wbhg (waa wbhh) wbhi (entry wbqw wbqx x)).map (wz tt K_zbf)).ev = ((wbhe x.1.1 x.1.2.1 x.1.2.2.1 x.1.2.2.2.1 x.2.1.1).map fun r => some ((((r.1, ()), ((r.2, ()), ()))) : K_zbf.T)).ev := fun _ => by kernel_rfl
theorem wcke : wo wbhf tt wbhg wbhh wbhi := yz (by kernel_rfl)
theorem wbwl : FnOK prog wbhf tt 227 D_zbf K_zbf wbhg wbhh f227 wbhi (fun x => wbhe x.1.1 x.1.2.1 x.1.2.2.1 x.1.2.2.2.1 x.2.1.1) (fun r => ((r.1, ()), ((r.2, ()), ()))) := yk func227 wcke wckd
theorem wbbs : waq prog (227, D_zbf) := waf mixed (wab (yc ⟨wbwk, yn⟩)) wag wbwl
theorem wckf : ∀ x : D_zbd.T, ((wad wbhk tt wbhl (waa wbhm) wbhn (entry wbqy wbqz x)).map (wz tt K_zbd)).ev = ((wbhj x.1.1 x.1.2.1 x.2.1.1).map fun r => some ((((r.1, ()), ((r.2, ()), ()))) : K_zbd.T)).ev := fun _ => by kernel_rfl
theorem wckg : wo wbhk tt wbhl wbhm wbhn := yz (by kernel_rfl)
theorem wbwm : FnOK prog wbhk tt 226 D_zbd K_zbd wbhl wbhm f226 wbhn (fun x => wbhj x.1.1 x.1.2.1 x.2.1.1) (fun r => ((r.1, ()), ((r.2, ()), ()))) := yk func226 wckg wckf
theorem wbwn : waq prog (226, D_zbd) := waf mixed (wab (yc ⟨wbbs, yn⟩)) wag wbwm
theorem wckh : ∀ x : D_zaz.T, ((wad wbhq tt wbhr (waa wbhs) wbht (entry wbra wbrb x)).map (wz tt K_zaz)).ev = ((wbho x.1.1 x.1.2.1 x.1.2.2.1).map fun r => some ((((r.1, (r.2, ())), ())) : K_zaz.T)).ev := fun _ => by kernel_rfl
theorem wcki : wo wbhq tt wbhr wbhs wbht := yz (by kernel_rfl)
theorem wbwo : FnOK prog wbhq tt 205 D_zaz K_zaz wbhr wbhs f205 wbht (fun x => wbho x.1.1 x.1.2.1 x.1.2.2.1) (fun r => ((r.1, (r.2, ())), ())) := yk func205 wcki wckh
theorem wbwp : waq prog (205, D_zaz) := waf mixed (wab (yc ⟨wbwn, yc ⟨wbbs, yn⟩⟩)) wag wbwo
theorem wckj : ∀ x : D_zbk.T, ((wad wvd tt wve (waa wvf) wqk (entry wbrc wbrd x)).map (wz tt K_zbk)).ev = ((wbhz x.1.2.1 x.1.2.2.1 x.1.2.2.2.1 x.2.1).map fun r => some ((((r.1, (r.2.1, ())), (r.2.2, ()))) : K_zbk.T)).ev := fun _ => by kernel_rfl
noncomputable def wamf : Code := ((wu wqk).find? fun p => Nat.beq p.1 0).elim .skip (·.2)
theorem wbkt : (wqf).OK wvd tt wve (waa wvf) wamf := yl (fun _ => rfl) fun _ _ => by kernel_rfl
noncomputable def wamg : Code := ((wu wqk).find? fun p => Nat.beq p.1 2).elim .skip (·.2)
theorem wbku : (wqg).OK wvd tt wve (waa wvf) wamg := yl (fun _ => rfl) fun _ _ => by kernel_rfl
noncomputable def wamh : Code := ((wu wqk).find? fun p => Nat.beq p.1 6).elim .skip (·.2)
theorem wbkv : (wqh).OK wvd tt wve (waa wvf) wamh := yl (fun _ => rfl) fun _ _ => by kernel_rfl
noncomputable def wami : Code := ((wu wqk).find? fun p => Nat.beq p.1 8).elim .skip (·.2)
theorem wbkw : (wqi).OK wvd tt wve (waa wvf) wami := yl (fun _ => rfl) fun _ _ => by kernel_rfl
noncomputable def wamj : Code := ((wu wqk).find? fun p => Nat.beq p.1 4).elim .skip (·.2)
theorem wbkx : (wqj).OK wvd tt wve (waa wvf) wamj := yl (fun _ => rfl) fun _ _ => by kernel_rfl
theorem wckk : wo wvd tt wve wvf wqk := by
 have h : wu wqk = [(0, wamf), (2, wamg), (4, wamj), (6, wamh), (8, wami)] := by kernel_rfl
 unfold wo
 rw [h]
 exact yc ⟨fun d h => (by have e : some (wqf) = some d := h; cases e; exact wbkt), yc ⟨fun d h => (by have e : some (wqg) = some d := h; cases e; exact wbku), yc ⟨fun d h => (by have e : some (wqj) = some d := h; cases e; exact wbkx), yc ⟨fun d h => (by have e : some (wqh) = some d := h; cases e; exact wbkv), yc ⟨fun d h => (by have e : some (wqi) = some d := h; cases e; exact wbkw), yn⟩⟩⟩⟩⟩
theorem wbwq : FnOK prog wvd tt 210 D_zbk K_zbk wve wvf f210 wqk (fun x => wbhz x.1.2.1 x.1.2.2.1 x.1.2.2.2.1 x.2.1) (fun r => ((r.1, (r.2.1, ())), (r.2.2, ()))) := yk func210 wckk wckj
theorem wbwr : waq prog (210, D_zbk) := waf mixed (wab (yc ⟨waym, yn⟩)) wag wbwq
theorem wckl (rec_ : (Int) → (Int) → (Int) → Y1 → Option Y1) : ∀ x : (wain rec_).T, ((wad (wavj rec_) tt wavk (waa (wavl rec_)) waio (entry wbre wbrf x)).map (wz tt K_zbm)).ev = ((waim rec_ x.1.2.1 x.1.2.2.1 x.1.2.2.2.1 x.2.1).map fun r => some ((((), (r, ()))) : K_zbm.T)).ev := fun _ => by kernel_rfl
noncomputable def wamk : Code := ((wu waio).find? fun p => Nat.beq p.1 0).elim .skip (·.2)
theorem wbky (rec_ : (Int) → (Int) → (Int) → Y1 → Option Y1) : (wqm rec_).OK (wavj rec_) tt wavk (waa (wavl rec_)) wamk := yl (fun _ => rfl) fun _ _ => by kernel_rfl
theorem wckm (rec_ : (Int) → (Int) → (Int) → Y1 → Option Y1) : wo (wavj rec_) tt wavk (wavl rec_) waio := by
 have h : wu waio = [(0, wamk)] := by kernel_rfl
 unfold wo
 rw [h]
 exact yc ⟨fun d h => (by have e : some (wqm rec_) = some d := h; cases e; exact wbky rec_), yn⟩
theorem wbws (n : Nat) : FnOK prog (wavj (wim n)) tt 188 (wbia (n + 1)) K_zbm wavk (wavl (wim n)) f188 waio (fun x => waim (wim n) x.1.2.1 x.1.2.2.1 x.1.2.2.2.1 x.2.1) (fun r => ((), (r, ()))) where
 at_ := func188
 name := by kernel_rfl
 body := by kernel_rfl
 res := by kernel_rfl
 ok := by kernel_rfl
 arity := fun _ => Nat.le_of_ble_eq_true (by kernel_rfl)
 pin := fun _ => by kernel_rfl
 chk := by kernel_rfl
 loops := wckm (wim n)
 run := wckl (wim n)
 F := fun _ => rfl
 emb := fun _ => rfl
theorem wbbt : ∀ n : Nat, waq prog (188, wbia n)
 | 0 => fun _ _ h => nomatch h
 | n + 1 => waf mixed (wab (yc ⟨wbwe, yc ⟨wbwi, yc ⟨wbwp, yc ⟨waym, yc ⟨wbwr, yc ⟨wbbt n, yn⟩⟩⟩⟩⟩⟩)) wag (wbws n)
theorem wckn : ∀ x : D_zat.T, ((wad wbib tt wbic (waa wbid) wbie (entry wbrg wbrh x)).map (wz tt K_zat)).ev = ((wavm x.2.1).map fun r => some ((((), (r, ()))) : K_zat.T)).ev := fun _ => by kernel_rfl
theorem wcko : wo wbib tt wbic wbid wbie := yz (by kernel_rfl)
theorem wbwt : FnOK prog wbib tt 147 D_zat K_zat wbic wbid f147 wbie (fun x => wavm x.2.1) (fun r => ((), (r, ()))) := yk func147 wcko wckn
theorem wbwu : waq prog (147, D_zat) := waf mixed (wab (yc ⟨wamb, yc ⟨wbbt 1000000, yn⟩⟩)) wag wbwt
theorem wckp : ∀ x : D_zau.T, ((wad wbif tt wbig (waa wbih) wbii (entry wbri wbrj x)).map (wz tt K_zau)).ev = ((waip x.1.1).map fun r => some (((((), ()), (r, ()))) : K_zau.T)).ev := fun _ => by kernel_rfl
theorem wckq : wo wbif tt wbig wbih wbii := yz (by kernel_rfl)
theorem wbwv : FnOK prog wbif tt 92 D_zau K_zau wbig wbih f92 wbii (fun x => waip x.1.1) (fun r => (((), ()), (r, ()))) := yk func92 wckq wckp
theorem wbbu : waq prog (92, D_zau) := waf mixed (wab (yc ⟨wbvy, yc ⟨wbwu, yn⟩⟩)) wag wbwv
theorem wckr : ∀ x : D_zab.T, ((wad wavp tt wavq (waa wavr) wais (entry wbrk wbrl x)).map (wz tt K_zab)).ev = ((wavo x.1.1 x.1.2.1).map fun r => some ((((r, ()), ())) : K_zab.T)).ev := fun _ => by kernel_rfl
noncomputable def waml : Code := ((wu wais).find? fun p => Nat.beq p.1 0).elim .skip (·.2)
theorem wbkz : (wqn).OK wavp tt wavq (waa wavr) waml := yl (fun _ => rfl) fun _ _ => by kernel_rfl
theorem wcks : wo wavp tt wavq wavr wais := by
 have h : wu wais = [(0, waml)] := by kernel_rfl
 unfold wo
 rw [h]
 exact yc ⟨fun d h => (by have e : some (wqn) = some d := h; cases e; exact wbkz), yn⟩
theorem wbww : FnOK prog wavp tt 106 D_zab K_zab wavq wavr f106 wais (fun x => wavo x.1.1 x.1.2.1) (fun r => ((r, ()), ())) := yk func106 wcks wckr
theorem wbbv : waq prog (106, D_zab) := waf mixed (wab (yc ⟨wayl, yn⟩)) wag wbww
theorem wckt : ∀ x : D_zaa.T, ((wad wbij tt wbik (waa wbil) wbim (entry wbrm wbrn x)).map (wz tt K_zaa)).ev = ((wavs x.1.1 x.1.2.1).map fun r => some ((((r, ()), ())) : K_zaa.T)).ev := fun _ => by kernel_rfl
theorem wcku : wo wbij tt wbik wbil wbim := yz (by kernel_rfl)
theorem wbwx : FnOK prog wbij tt 88 D_zaa K_zaa wbik wbil f88 wbim (fun x => wavs x.1.1 x.1.2.1) (fun r => ((r, ()), ())) := yk func88 wcku wckt
theorem wbwy : waq prog (88, D_zaa) := waf mixed (wab (yc ⟨wbbp, yc ⟨wbbu, yc ⟨wbbv, yn⟩⟩⟩)) wag wbwx
theorem e_zu : ∀ x : D_zu.T, ((wad E_zu tt Z_zu (waa O_zu) C_zu (entry A_zu I_zu x)).map (wz tt K_zu)).ev = ((T_zu x.1.1 x.1.2.1).map fun r => some ((((r, ()), ())) : K_zu.T)).ev := fun _ => by kernel_rfl
theorem o_zu : wo E_zu tt Z_zu O_zu C_zu := yz (by kernel_rfl)
theorem wckv : FnOK prog E_zu tt 68 D_zu K_zu Z_zu O_zu f68 C_zu (fun x => T_zu x.1.1 x.1.2.1) (fun r => ((r, ()), ())) := yk func68 o_zu e_zu
theorem wckw : waq prog (68, D_zu) := waf mixed (wab (yn)) wag wckv
theorem e_zv : ∀ x : D_zv.T, ((wad E_zv tt Z_zv (waa O_zv) C_zv (entry A_zv I_zv x)).map (wz tt K_zv)).ev = ((T_zv x.1.1).map fun r => some (((((), ()), (r, ()))) : K_zv.T)).ev := fun _ => by kernel_rfl
noncomputable def wbbw : Code := ((wu C_zv).find? fun p => Nat.beq p.1 0).elim .skip (·.2)
theorem wbwz : (wxw).OK E_zv tt Z_zv (waa O_zv) wbbw := yl (fun _ => rfl) fun _ _ => by kernel_rfl
theorem o_zv : wo E_zv tt Z_zv O_zv C_zv := by
 have h : wu C_zv = [(0, wbbw)] := by kernel_rfl
 unfold wo
 rw [h]
 exact yc ⟨fun d h => (by have e : some (wxw) = some d := h; cases e; exact wbwz), yn⟩
theorem wckx : FnOK prog E_zv tt 69 D_zv K_zv Z_zv O_zv f69 C_zv (fun x => T_zv x.1.1) (fun r => (((), ()), (r, ()))) := yk func69 o_zv e_zv
theorem wcky : waq prog (69, D_zv) := waf mixed (wab (yc ⟨wckw, yn⟩)) wag wckx
theorem wckz : ∀ x : D_zba.T, ((wad waiw tt waix (waa waiy) wacr (entry wbrr wbrs x)).map (wz tt K_zba)).ev = ((waiv x.1.2.1 x.1.2.2.1 x.1.2.2.2.1 x.2.1).map fun r => some ((((), (r, ()))) : K_zba.T)).ev := fun _ => by kernel_rfl
noncomputable def wamm : Code := ((wu wacr).find? fun p => Nat.beq p.1 2).elim .skip (·.2)
theorem wbla : (wqp).OK waiw tt waix (waa waiy) wamm := yl (fun _ => rfl) fun _ _ => by kernel_rfl
noncomputable def wamn : Code := ((wu wacr).find? fun p => Nat.beq p.1 0).elim .skip (·.2)
theorem wblb : (wqr).OK waiw tt waix (waa waiy) wamn := yl (fun _ => rfl) fun _ _ => by kernel_rfl
theorem wcla : wo waiw tt waix waiy wacr := by
 have h : wu wacr = [(0, wamn), (2, wamm)] := by kernel_rfl
 unfold wo
 rw [h]
 exact yc ⟨fun d h => (by have e : some (wqr) = some d := h; cases e; exact wblb), yc ⟨fun d h => (by have e : some (wqp) = some d := h; cases e; exact wbla), yn⟩⟩
theorem wbxa : FnOK prog waiw tt 215 D_zba K_zba waix waiy f215 wacr (fun x => waiv x.1.2.1 x.1.2.2.1 x.1.2.2.2.1 x.2.1) (fun r => ((), (r, ()))) := yk func215 wcla wckz
theorem wbxb : waq prog (215, D_zba) := waf mixed (wab (yn)) wag wbxa
theorem wclb : ∀ x : D_zaw.T, ((wad wavw tt wavx (waa wavy) waja (entry wbrt wbru x)).map (wz tt K_zaw)).ev = ((waiz x.1.2.1 x.1.2.2.1 x.1.2.2.2.1 x.2.1).map fun r => some ((((), (r, ()))) : K_zaw.T)).ev := fun _ => by kernel_rfl
noncomputable def wamo : Code := ((wu waja).find? fun p => Nat.beq p.1 0).elim .skip (·.2)
theorem wblc : (wqt).OK wavw tt wavx (waa wavy) wamo := yl (fun _ => rfl) fun _ _ => by kernel_rfl
theorem wclc : wo wavw tt wavx wavy waja := by
 have h : wu waja = [(0, wamo)] := by kernel_rfl
 unfold wo
 rw [h]
 exact yc ⟨fun d h => (by have e : some (wqt) = some d := h; cases e; exact wblc), yn⟩
theorem wbxc : FnOK prog wavw tt 217 D_zaw K_zaw wavx wavy f217 waja (fun x => waiz x.1.2.1 x.1.2.2.1 x.1.2.2.2.1 x.2.1) (fun r => ((), (r, ()))) := yk func217 wclc wclb
theorem wbxd : waq prog (217, D_zaw) := waf mixed (wab (yc ⟨wbbq, yc ⟨wbbr, yn⟩⟩)) wag wbxc
theorem wcld : ∀ x : D_zbh.T, ((wad wbin tt wbio (waa wbip) wbiq (entry wbrv wbrw x)).map (wz tt K_zbh)).ev = ((wajb x.1.1 x.1.2.1 x.1.2.2.1 x.1.2.2.2.2.1 x.2.1.1).map fun r => some ((((r.1, (r.2.1, ())), ((r.2.2, ()), ()))) : K_zbh.T)).ev := fun _ => by kernel_rfl
theorem wcle : wo wbin tt wbio wbip wbiq := yz (by kernel_rfl)
theorem wbxe : FnOK prog wbin tt 234 D_zbh K_zbh wbio wbip f234 wbiq (fun x => wajb x.1.1 x.1.2.1 x.1.2.2.1 x.1.2.2.2.2.1 x.2.1.1) (fun r => ((r.1, (r.2.1, ())), ((r.2.2, ()), ()))) := yk func234 wcle wcld
theorem wbxf : waq prog (234, D_zbh) := waf mixed (wab (yn)) wag wbxe
theorem wclf : ∀ x : D_zbe.T, ((wad wbir tt wbis (waa wbit) wbiu (entry wbrx wbry x)).map (wz tt K_zbe)).ev = ((wajc x.1.1 x.1.2.1 x.1.2.2.1 x.1.2.2.2.1 x.1.2.2.2.2.2.1 x.2.1.1).map fun r => some ((((r.1, ()), ((r.2, ()), ()))) : K_zbe.T)).ev := fun _ => by kernel_rfl
theorem wclg : wo wbir tt wbis wbit wbiu := yz (by kernel_rfl)
theorem wbxg : FnOK prog wbir tt 231 D_zbe K_zbe wbis wbit f231 wbiu (fun x => wajc x.1.1 x.1.2.1 x.1.2.2.1 x.1.2.2.2.1 x.1.2.2.2.2.2.1 x.2.1.1) (fun r => ((r.1, ()), ((r.2, ()), ()))) := yk func231 wclg wclf
theorem wbbx : waq prog (231, D_zbe) := waf mixed (wab (yc ⟨wbxf, yn⟩)) wag wbxg
theorem wclh : ∀ x : D_zbc.T, ((wad wbiv tt wbiw (waa wbix) wbiy (entry wbrz wbsa x)).map (wz tt K_zbc)).ev = ((wajd x.1.1 x.1.2.1 x.1.2.2.2.1 x.2.1.1).map fun r => some ((((r.1, ()), ((r.2, ()), ()))) : K_zbc.T)).ev := fun _ => by kernel_rfl
theorem wcli : wo wbiv tt wbiw wbix wbiy := yz (by kernel_rfl)
theorem wbxh : FnOK prog wbiv tt 230 D_zbc K_zbc wbiw wbix f230 wbiy (fun x => wajd x.1.1 x.1.2.1 x.1.2.2.2.1 x.2.1.1) (fun r => ((r.1, ()), ((r.2, ()), ()))) := yk func230 wcli wclh
theorem wbxi : waq prog (230, D_zbc) := waf mixed (wab (yc ⟨wbbx, yn⟩)) wag wbxh
theorem wclj : ∀ x : D_zay.T, ((wad wbiz tt wbja (waa wbjb) wbjc (entry wbsb wbsc x)).map (wz tt K_zay)).ev = ((waje x.1.1 x.1.2.1 x.1.2.2.1 x.1.2.2.2.1).map fun r => some ((((r.1, (r.2, ())), ())) : K_zay.T)).ev := fun _ => by kernel_rfl
theorem wclk : wo wbiz tt wbja wbjb wbjc := yz (by kernel_rfl)
theorem wbxj : FnOK prog wbiz tt 218 D_zay K_zay wbja wbjb f218 wbjc (fun x => waje x.1.1 x.1.2.1 x.1.2.2.1 x.1.2.2.2.1) (fun r => ((r.1, (r.2, ())), ())) := yk func218 wclk wclj
theorem wbxk : waq prog (218, D_zay) := waf mixed (wab (yc ⟨wbxi, yc ⟨wbbx, yn⟩⟩)) wag wbxj
theorem wcll : ∀ x : D_zbj.T, ((wad wvg tt wvh (waa wvi) wre (entry wbsd wbse x)).map (wz tt K_zbj)).ev = ((wajg x.1.2.1 x.1.2.2.1 x.1.2.2.2.1 x.1.2.2.2.2.1 x.2.1).map fun r => some ((((r.1, (r.2.1, ())), (r.2.2, ()))) : K_zbj.T)).ev := fun _ => by kernel_rfl
noncomputable def wamp : Code := ((wu wre).find? fun p => Nat.beq p.1 0).elim .skip (·.2)
theorem wbld : (wqv).OK wvg tt wvh (waa wvi) wamp := yl (fun _ => rfl) fun _ _ => by kernel_rfl
noncomputable def wamq : Code := ((wu wre).find? fun p => Nat.beq p.1 2).elim .skip (·.2)
theorem wble : (wqx).OK wvg tt wvh (waa wvi) wamq := yl (fun _ => rfl) fun _ _ => by kernel_rfl
noncomputable def wamr : Code := ((wu wre).find? fun p => Nat.beq p.1 6).elim .skip (·.2)
theorem wblf : (wqz).OK wvg tt wvh (waa wvi) wamr := yl (fun _ => rfl) fun _ _ => by kernel_rfl
noncomputable def wams : Code := ((wu wre).find? fun p => Nat.beq p.1 8).elim .skip (·.2)
theorem wblg : (wrb).OK wvg tt wvh (waa wvi) wams := yl (fun _ => rfl) fun _ _ => by kernel_rfl
noncomputable def wamt : Code := ((wu wre).find? fun p => Nat.beq p.1 4).elim .skip (·.2)
theorem wblh : (wrd).OK wvg tt wvh (waa wvi) wamt := yl (fun _ => rfl) fun _ _ => by kernel_rfl
theorem wclm : wo wvg tt wvh wvi wre := by
 have h : wu wre = [(0, wamp), (2, wamq), (4, wamt), (6, wamr), (8, wams)] := by kernel_rfl
 unfold wo
 rw [h]
 exact yc ⟨fun d h => (by have e : some (wqv) = some d := h; cases e; exact wbld), yc ⟨fun d h => (by have e : some (wqx) = some d := h; cases e; exact wble), yc ⟨fun d h => (by have e : some (wrd) = some d := h; cases e; exact wblh), yc ⟨fun d h => (by have e : some (wqz) = some d := h; cases e; exact wblf), yc ⟨fun d h => (by have e : some (wrb) = some d := h; cases e; exact wblg), yn⟩⟩⟩⟩⟩
theorem wbxl : FnOK prog wvg tt 222 D_zbj K_zbj wvh wvi f222 wre (fun x => wajg x.1.2.1 x.1.2.2.1 x.1.2.2.2.1 x.1.2.2.2.2.1 x.2.1) (fun r => ((r.1, (r.2.1, ())), (r.2.2, ()))) := yk func222 wclm wcll
theorem wbxm : waq prog (222, D_zbj) := waf mixed (wab (yn)) wag wbxl
theorem wcln (rec_ : (Int) → (Int) → (Int) → ((HL [y1, y1] → Option (Int))) → ((List Nat) × Y2) → Option ((List Nat) × Y2)) : ∀ x : (waji rec_).T, ((wad (wavz rec_) tt wawa (waa (wawb rec_)) wajj (entry wbsf wbsg x)).map (wz tt K_zbl)).ev = ((wajh rec_ x.1.2.1 x.1.2.2.1 x.1.2.2.2.1 x.1.2.2.2.2.1 x.2.1).map fun r => some ((((), (r, ()))) : K_zbl.T)).ev := fun _ => by kernel_rfl
noncomputable def wamu : Code := ((wu wajj).find? fun p => Nat.beq p.1 0).elim .skip (·.2)
theorem wbli (rec_ : (Int) → (Int) → (Int) → ((HL [y1, y1] → Option (Int))) → ((List Nat) × Y2) → Option ((List Nat) × Y2)) : (wrg rec_).OK (wavz rec_) tt wawa (waa (wawb rec_)) wamu := yl (fun _ => rfl) fun _ _ => by kernel_rfl
theorem wclo (rec_ : (Int) → (Int) → (Int) → ((HL [y1, y1] → Option (Int))) → ((List Nat) × Y2) → Option ((List Nat) × Y2)) : wo (wavz rec_) tt wawa (wawb rec_) wajj := by
 have h : wu wajj = [(0, wamu)] := by kernel_rfl
 unfold wo
 rw [h]
 exact yc ⟨fun d h => (by have e : some (wrg rec_) = some d := h; cases e; exact wbli rec_), yn⟩
theorem wbxn (n : Nat) : FnOK prog (wavz (wmu n)) tt 198 (wbjd (n + 1)) K_zbl wawa (wawb (wmu n)) f198 wajj (fun x => wajh (wmu n) x.1.2.1 x.1.2.2.1 x.1.2.2.2.1 x.1.2.2.2.2.1 x.2.1) (fun r => ((), (r, ()))) where
 at_ := func198
 name := by kernel_rfl
 body := by kernel_rfl
 res := by kernel_rfl
 ok := by kernel_rfl
 arity := fun _ => Nat.le_of_ble_eq_true (by kernel_rfl)
 pin := fun _ => by kernel_rfl
 chk := by kernel_rfl
 loops := wclo (wmu n)
 run := wcln (wmu n)
 F := fun _ => rfl
 emb := fun _ => rfl
theorem wbby : ∀ n : Nat, waq prog (198, wbjd n)
 | 0 => fun _ _ h => nomatch h
 | n + 1 => waf mixed (wab (yc ⟨wbxb, yc ⟨wbxd, yc ⟨wbxk, yc ⟨wbxm, yc ⟨wbby n, yn⟩⟩⟩⟩⟩)) wag (wbxn n)
theorem wclp : ∀ x : D_zas.T, ((wad wbje tt wbjf (waa wbjg) wbjh (entry wbsh wbsi x)).map (wz tt K_zas)).ev = ((wajk x.1.2.1 x.2.1).map fun r => some ((((), (r, ()))) : K_zas.T)).ev := fun _ => by kernel_rfl
theorem wclq : wo wbje tt wbjf wbjg wbjh := yz (by kernel_rfl)
theorem wbxo : FnOK prog wbje tt 180 D_zas K_zas wbjf wbjg f180 wbjh (fun x => wajk x.1.2.1 x.2.1) (fun r => ((), (r, ()))) := yk func180 wclq wclp
theorem wbbz : waq prog (180, D_zas) := waf mixed (wab (yc ⟨wamb, yc ⟨wbby 1000000, yn⟩⟩)) wag wbxo
theorem e_za : ∀ x : D_za.T, ((wad E_za tt Z_za (waa O_za) C_za (entry A_za I_za x)).map (wz tt K_za)).ev = ((T_za x.1.1 x.1.2.1).map fun r => some ((((r, ()), ())) : K_za.T)).ev := fun _ => by kernel_rfl
theorem o_za : wo E_za tt Z_za O_za C_za := yz (by kernel_rfl)
theorem wclr : FnOK prog E_za tt 163 D_za K_za Z_za O_za f163 C_za (fun x => T_za x.1.1 x.1.2.1) (fun r => ((r, ()), ())) := yk func163 o_za e_za
theorem wbxp : waq prog (163, D_za) := waf mixed (wab (yc ⟨wbwc, yn⟩)) wag wclr
theorem wcls : ∀ x : D_zam.T, ((wad wawe tt wawf (waa wawg) wajm (entry wbsl wbsm x)).map (wz tt K_zam)).ev = ((wajl x.1.1 x.1.2.1).map fun r => some ((((r, ()), ())) : K_zam.T)).ev := fun _ => by kernel_rfl
noncomputable def wamv : Code := ((wu wajm).find? fun p => Nat.beq p.1 0).elim .skip (·.2)
theorem wblj : (wri).OK wawe tt wawf (waa wawg) wamv := yl (fun _ => rfl) fun _ _ => by kernel_rfl
theorem wclt : wo wawe tt wawf wawg wajm := by
 have h : wu wajm = [(0, wamv)] := by kernel_rfl
 unfold wo
 rw [h]
 exact yc ⟨fun d h => (by have e : some (wri) = some d := h; cases e; exact wblj), yn⟩
theorem wbxq : FnOK prog wawe tt 200 D_zam K_zam wawf wawg f200 wajm (fun x => wajl x.1.1 x.1.2.1) (fun r => ((r, ()), ())) := yk func200 wclt wcls
theorem wbxr : waq prog (200, D_zam) := waf mixed (wab (yc ⟨wbxp, yn⟩)) wag wbxq
theorem e_zc : ∀ x : D_zc.T, ((wad E_zc tt Z_zc (waa O_zc) C_zc (entry A_zc I_zc x)).map (wz tt K_zc)).ev = ((T_zc x.1.1).map fun r => some ((((r, ()), ())) : K_zc.T)).ev := fun _ => by kernel_rfl
noncomputable def wbca : Code := ((wu C_zc).find? fun p => Nat.beq p.1 0).elim .skip (·.2)
theorem wbxs : (wyh).OK E_zc tt Z_zc (waa O_zc) wbca := yl (fun _ => rfl) fun _ _ => by kernel_rfl
theorem o_zc : wo E_zc tt Z_zc O_zc C_zc := by
 have h : wu C_zc = [(0, wbca)] := by kernel_rfl
 unfold wo
 rw [h]
 exact yc ⟨fun d h => (by have e : some (wyh) = some d := h; cases e; exact wbxs), yn⟩
theorem wclu : FnOK prog E_zc tt 199 D_zc K_zc Z_zc O_zc f199 C_zc (fun x => T_zc x.1.1) (fun r => ((r, ()), ())) := yk func199 o_zc e_zc
theorem wclv : waq prog (199, D_zc) := waf mixed (wab (yn)) wag wclu
theorem e_zx : ∀ x : D_zx.T, ((wad E_zx tt Z_zx (waa O_zx) C_zx (entry A_zx I_zx x)).map (wz tt K_zx)).ev = ((T_zx x.1.1 x.1.2.1).map fun r => some ((((r, ()), ())) : K_zx.T)).ev := fun _ => by kernel_rfl
theorem o_zx : wo E_zx tt Z_zx O_zx C_zx := yz (by kernel_rfl)
theorem wclw : FnOK prog E_zx tt 181 D_zx K_zx Z_zx O_zx f181 C_zx (fun x => T_zx x.1.1 x.1.2.1) (fun r => ((r, ()), ())) := yk func181 o_zx e_zx
theorem wclx : waq prog (181, D_zx) := waf mixed (wab (yc ⟨wbxp, yc ⟨wbxr, yc ⟨wclv, yn⟩⟩⟩)) wag wclw
theorem wcly : ∀ x : D_zad.T, ((wad wawh tt wawi (waa wawj) wajq (entry wbsq wbsr x)).map (wz tt K_zad)).ev = ((wajo x.1.1).map fun r => some (((((), ()), (r, ()))) : K_zad.T)).ev := fun _ => by kernel_rfl
noncomputable def wamw : Code := ((wu wajq).find? fun p => Nat.beq p.1 0).elim .skip (·.2)
theorem wblk : (wrk).OK wawh tt wawi (waa wawj) wamw := yl (fun _ => rfl) fun _ _ => by kernel_rfl
theorem wclz : wo wawh tt wawi wawj wajq := by
 have h : wu wajq = [(0, wamw)] := by kernel_rfl
 unfold wo
 rw [h]
 exact yc ⟨fun d h => (by have e : some (wrk) = some d := h; cases e; exact wblk), yn⟩
theorem wbxt : FnOK prog wawh tt 134 D_zad K_zad wawi wawj f134 wajq (fun x => wajo x.1.1) (fun r => (((), ()), (r, ()))) := yk func134 wclz wcly
theorem wbxu : waq prog (134, D_zad) := waf mixed (wab (yc ⟨wcky, yc ⟨wbbz, yc ⟨wbbz, yc ⟨wclx, yn⟩⟩⟩⟩)) wag wbxt
theorem wcma : ∀ x : D_zap.T, ((wad wawm tt wawn (waa wawo) wajs (entry wbss wbst x)).map (wz tt K_zap)).ev = ((wawk x.1.2.1 x.2.1).map fun r => some (((((), ()), (r, ()))) : K_zap.T)).ev := fun _ => by kernel_rfl
noncomputable def wamx : Code := ((wu wajs).find? fun p => Nat.beq p.1 0).elim .skip (·.2)
theorem wbll : (wrl).OK wawm tt wawn (waa wawo) wamx := yl (fun _ => rfl) fun _ _ => by kernel_rfl
theorem wcmb : wo wawm tt wawn wawo wajs := by
 have h : wu wajs = [(0, wamx)] := by kernel_rfl
 unfold wo
 rw [h]
 exact yc ⟨fun d h => (by have e : some (wrl) = some d := h; cases e; exact wbll), yn⟩
theorem wbxv : FnOK prog wawm tt 153 D_zap K_zap wawn wawo f153 wajs (fun x => wawk x.1.2.1 x.2.1) (fun r => (((), ()), (r, ()))) := yk func153 wcmb wcma
theorem wbcb : waq prog (153, D_zap) := waf mixed (wab (yc ⟨wbbn, yn⟩)) wag wbxv
theorem e_zh : ∀ x : D_zh.T, ((wad E_zh tt Z_zh (waa O_zh) C_zh (entry A_zh I_zh x)).map (wz tt K_zh)).ev = ((T_zh x.1.1 x.1.2.1.1).map fun r => some ((((r, ()), ())) : K_zh.T)).ev := fun _ => by kernel_rfl
theorem o_zh : wo E_zh tt Z_zh O_zh C_zh := yz (by kernel_rfl)
theorem wcmc : FnOK prog E_zh tt 154 D_zh K_zh Z_zh O_zh f154 C_zh (fun x => T_zh x.1.1 x.1.2.1.1) (fun r => ((r, ()), ())) := yk func154 o_zh e_zh
theorem wcmd : waq prog (154, D_zh) := waf mixed (wab (yn)) wag wcmc
theorem wcme : ∀ x : D_zac.T, ((wad wawr tt waws (waa wawt) waju (entry wbsv wbsw x)).map (wz tt K_zac)).ev = ((wawp x.1.2.1 x.2.1).map fun r => some (((((), ()), (r, ()))) : K_zac.T)).ev := fun _ => by kernel_rfl
noncomputable def wamy : Code := ((wu waju).find? fun p => Nat.beq p.1 0).elim .skip (·.2)
theorem wblm : (wrm).OK wawr tt waws (waa wawt) wamy := yl (fun _ => rfl) fun _ _ => by kernel_rfl
theorem wcmf : wo wawr tt waws wawt waju := by
 have h : wu waju = [(0, wamy)] := by kernel_rfl
 unfold wo
 rw [h]
 exact yc ⟨fun d h => (by have e : some (wrm) = some d := h; cases e; exact wblm), yn⟩
theorem wbxw : FnOK prog wawr tt 133 D_zac K_zac waws wawt f133 waju (fun x => wawp x.1.2.1 x.2.1) (fun r => (((), ()), (r, ()))) := yk func133 wcmf wcme
theorem wbcc : waq prog (133, D_zac) := waf mixed (wab (yn)) wag wbxw
theorem e_zj : ∀ x : D_zj.T, ((wad E_zj tt Z_zj (waa O_zj) C_zj (entry A_zj I_zj x)).map (wz tt K_zj)).ev = ((T_zj x.1.1.1 x.1.1.2.1 x.1.2.1 x.1.2.2.1).map fun r => some ((((r, ()), ())) : K_zj.T)).ev := fun _ => by kernel_rfl
noncomputable def wbcd : Code := ((wu C_zj).find? fun p => Nat.beq p.1 0).elim .skip (·.2)
theorem wbxx : (wyj).OK E_zj tt Z_zj (waa O_zj) wbcd := yl (fun _ => rfl) fun _ _ => by kernel_rfl
theorem o_zj : wo E_zj tt Z_zj O_zj C_zj := by
 have h : wu C_zj = [(0, wbcd)] := by kernel_rfl
 unfold wo
 rw [h]
 exact yc ⟨fun d h => (by have e : some (wyj) = some d := h; cases e; exact wbxx), yn⟩
theorem wcmg : FnOK prog E_zj tt 201 D_zj K_zj Z_zj O_zj f201 C_zj (fun x => T_zj x.1.1.1 x.1.1.2.1 x.1.2.1 x.1.2.2.1) (fun r => ((r, ()), ())) := yk func201 o_zj e_zj
theorem wcmh : waq prog (201, D_zj) := waf mixed (wab (yn)) wag wcmg
theorem e_zi : ∀ x : D_zi.T, ((wad E_zi tt Z_zi (waa O_zi) C_zi (entry A_zi I_zi x)).map (wz tt K_zi)).ev = ((T_zi x.1.1.1 x.1.1.2.1 x.1.2.1).map fun r => some (((((), ()), (r, ()))) : K_zi.T)).ev := fun _ => by kernel_rfl
noncomputable def wbce : Code := ((wu C_zi).find? fun p => Nat.beq p.1 0).elim .skip (·.2)
theorem wbxy : (wyk).OK E_zi tt Z_zi (waa O_zi) wbce := yl (fun _ => rfl) fun _ _ => by kernel_rfl
theorem o_zi : wo E_zi tt Z_zi O_zi C_zi := by
 have h : wu C_zi = [(0, wbce)] := by kernel_rfl
 unfold wo
 rw [h]
 exact yc ⟨fun d h => (by have e : some (wyk) = some d := h; cases e; exact wbxy), yn⟩
theorem wcmi : FnOK prog E_zi tt 186 D_zi K_zi Z_zi O_zi f186 C_zi (fun x => T_zi x.1.1.1 x.1.1.2.1 x.1.2.1) (fun r => (((), ()), (r, ()))) := yk func186 o_zi e_zi
theorem wcmj : waq prog (186, D_zi) := waf mixed (wab (yc ⟨wcmh, yn⟩)) wag wcmi
theorem e_zf : ∀ x : D_zf.T, ((wad E_zf tt Z_zf (waa O_zf) C_zf (entry A_zf I_zf x)).map (wz tt K_zf)).ev = ((T_zf x.1.1.1 x.1.1.2.1 x.1.2.1).map fun r => some (((((), ()), (r, ()))) : K_zf.T)).ev := fun _ => by kernel_rfl
noncomputable def wbcf : Code := ((wu C_zf).find? fun p => Nat.beq p.1 0).elim .skip (·.2)
theorem wbxz : (wyl).OK E_zf tt Z_zf (waa O_zf) wbcf := yl (fun _ => rfl) fun _ _ => by kernel_rfl
theorem o_zf : wo E_zf tt Z_zf O_zf C_zf := by
 have h : wu C_zf = [(0, wbcf)] := by kernel_rfl
 unfold wo
 rw [h]
 exact yc ⟨fun d h => (by have e : some (wyl) = some d := h; cases e; exact wbxz), yn⟩
theorem wcmk : FnOK prog E_zf tt 145 D_zf K_zf Z_zf O_zf f145 C_zf (fun x => T_zf x.1.1.1 x.1.1.2.1 x.1.2.1) (fun r => (((), ()), (r, ()))) := yk func145 o_zf e_zf
theorem wcml : waq prog (145, D_zf) := waf mixed (wab (yc ⟨wcmj, yn⟩)) wag wcmk
theorem wcmm : ∀ x : D_zae.T, ((wad waww tt wawx (waa wawy) wajw (entry wbta wbtb x)).map (wz tt K_zae)).ev = ((wawu x.1.1).map fun r => some ((((r, ()), ())) : K_zae.T)).ev := fun _ => by kernel_rfl
noncomputable def wamz : Code := ((wu wajw).find? fun p => Nat.beq p.1 0).elim .skip (·.2)
theorem wbln : (wrn).OK waww tt wawx (waa wawy) wamz := yl (fun _ => rfl) fun _ _ => by kernel_rfl
theorem wcmn : wo waww tt wawx wawy wajw := by
 have h : wu wajw = [(0, wamz)] := by kernel_rfl
 unfold wo
 rw [h]
 exact yc ⟨fun d h => (by have e : some (wrn) = some d := h; cases e; exact wbln), yn⟩
theorem wbya : FnOK prog waww tt 144 D_zae K_zae wawx wawy f144 wajw (fun x => wawu x.1.1) (fun r => ((r, ()), ())) := yk func144 wcmn wcmm
theorem wbyb : waq prog (144, D_zae) := waf mixed (wab (yn)) wag wbya
theorem e_zk : ∀ x : D_zk.T, ((wad E_zk tt Z_zk (waa O_zk) C_zk (entry A_zk I_zk x)).map (wz tt K_zk)).ev = ((T_zk x.1.1.1 x.1.1.2.1 x.1.2.1).map fun r => some ((((r, ()), ())) : K_zk.T)).ev := fun _ => by kernel_rfl
theorem o_zk : wo E_zk tt Z_zk O_zk C_zk := yz (by kernel_rfl)
theorem wcmo : FnOK prog E_zk tt 91 D_zk K_zk Z_zk O_zk f91 C_zk (fun x => T_zk x.1.1.1 x.1.1.2.1 x.1.2.1) (fun r => ((r, ()), ())) := yk func91 o_zk e_zk
theorem wana : waq prog (91, D_zk) := waf mixed (wab (yc ⟨wcml, yc ⟨wbyb, yn⟩⟩)) wag wcmo
theorem e_zg : ∀ x : D_zg.T, ((wad E_zg tt Z_zg (waa O_zg) C_zg (entry A_zg I_zg x)).map (wz tt K_zg)).ev = ((T_zg x.1.1.1 x.1.1.2.1 x.1.2.1).map fun r => some (((((), ()), (r, ()))) : K_zg.T)).ev := fun _ => by kernel_rfl
theorem o_zg : wo E_zg tt Z_zg O_zg C_zg := yz (by kernel_rfl)
theorem wcmp : FnOK prog E_zg tt 103 D_zg K_zg Z_zg O_zg f103 C_zg (fun x => T_zg x.1.1.1 x.1.1.2.1 x.1.2.1) (fun r => (((), ()), (r, ()))) := yk func103 o_zg e_zg
theorem wbyc : waq prog (103, D_zg) := waf mixed (wab (yc ⟨wbxu, yc ⟨wbcb, yc ⟨wbcc, yc ⟨wbcc, yc ⟨wana, yc ⟨wbcb, yc ⟨wcmd, yn⟩⟩⟩⟩⟩⟩⟩)) wag wcmp
theorem e_zl : ∀ x : D_zl.T, ((wad E_zl tt Z_zl (waa O_zl) C_zl (entry A_zl I_zl x)).map (wz tt K_zl)).ev = ((T_zl x.1.1.1 x.1.1.2.1).map fun r => some (((((), ()), (r, ()))) : K_zl.T)).ev := fun _ => by kernel_rfl
noncomputable def wbcg : Code := ((wu C_zl).find? fun p => Nat.beq p.1 0).elim .skip (·.2)
theorem wbyd : (wym).OK E_zl tt Z_zl (waa O_zl) wbcg := yl (fun _ => rfl) fun _ _ => by kernel_rfl
theorem o_zl : wo E_zl tt Z_zl O_zl C_zl := by
 have h : wu C_zl = [(0, wbcg)] := by kernel_rfl
 unfold wo
 rw [h]
 exact yc ⟨fun d h => (by have e : some (wym) = some d := h; cases e; exact wbyd), yn⟩
theorem wcmq : FnOK prog E_zl tt 90 D_zl K_zl Z_zl O_zl f90 C_zl (fun x => T_zl x.1.1.1 x.1.1.2.1) (fun r => (((), ()), (r, ()))) := yk func90 o_zl e_zl
theorem wcmr : waq prog (90, D_zl) := waf mixed (wab (yc ⟨wbyc, yc ⟨wana, yn⟩⟩)) wag wcmq
theorem e_zq : ∀ x : D_zq.T, ((wad E_zq tt Z_zq (waa O_zq) C_zq (entry A_zq I_zq x)).map (wz tt K_zq)).ev = ((T_zq x.1.1.1 x.1.1.2.1).map fun r => some (((((r.1, (r.2, ())), ()), ())) : K_zq.T)).ev := fun _ => by kernel_rfl
theorem o_zq : wo E_zq tt Z_zq O_zq C_zq := yz (by kernel_rfl)
theorem wcms : FnOK prog E_zq tt 89 D_zq K_zq Z_zq O_zq f89 C_zq (fun x => T_zq x.1.1.1 x.1.1.2.1) (fun r => (((r.1, (r.2, ())), ()), ())) := yk func89 o_zq e_zq
theorem wcmt : waq prog (89, D_zq) := waf mixed (wab (yn)) wag wcms
theorem e_zp : ∀ x : D_zp.T, ((wad E_zp tt Z_zp (waa O_zp) C_zp (entry A_zp I_zp x)).map (wz tt K_zp)).ev = ((T_zp x.1.1.1 x.1.1.2.1 x.1.2.1).map fun r => some ((((r.1, ((r.2.1, (r.2.2.1, ())), (r.2.2.2, ()))), ())) : K_zp.T)).ev := fun _ => by kernel_rfl
noncomputable def wbch : Code := ((wu C_zp).find? fun p => Nat.beq p.1 0).elim .skip (·.2)
theorem wbye : (wyn).OK E_zp tt Z_zp (waa O_zp) wbch := yl (fun _ => rfl) fun _ _ => by kernel_rfl
theorem o_zp : wo E_zp tt Z_zp O_zp C_zp := by
 have h : wu C_zp = [(0, wbch)] := by kernel_rfl
 unfold wo
 rw [h]
 exact yc ⟨fun d h => (by have e : some (wyn) = some d := h; cases e; exact wbye), yn⟩
theorem wcmu : FnOK prog E_zp tt 27 D_zp K_zp Z_zp O_zp f27 C_zp (fun x => T_zp x.1.1.1 x.1.1.2.1 x.1.2.1) (fun r => ((r.1, ((r.2.1, (r.2.2.1, ())), (r.2.2.2, ()))), ())) := yk func27 o_zp e_zp
theorem wcmv : waq prog (27, D_zp) := waf mixed (wab (yc ⟨wbkp, yc ⟨wbwy, yc ⟨wcmr, yc ⟨wbbp, yc ⟨wbbu, yc ⟨wana, yc ⟨wcmt, yn⟩⟩⟩⟩⟩⟩⟩)) wag wcmu
theorem wcmw : ∀ x : D_zbr.T, ((wad waxb tt waxc (waa waxd) wajy (entry wbtf wbtg x)).map (wz tt K_zbr)).ev = ((wawz x.1.1.1 x.1.1.2.1 x.1.2.1).map fun r => some ((((r, ()), ())) : K_zbr.T)).ev := fun _ => by kernel_rfl
noncomputable def wanb : Code := ((wu wajy).find? fun p => Nat.beq p.1 0).elim .skip (·.2)
theorem wblo : (wro).OK waxb tt waxc (waa waxd) wanb := yl (fun _ => rfl) fun _ _ => by kernel_rfl
theorem wcmx : wo waxb tt waxc waxd wajy := by
 have h : wu wajy = [(0, wanb)] := by kernel_rfl
 unfold wo
 rw [h]
 exact yc ⟨fun d h => (by have e : some (wro) = some d := h; cases e; exact wblo), yn⟩
theorem wbyf : FnOK prog waxb tt 95 D_zbr K_zbr waxc waxd f95 wajy (fun x => wawz x.1.1.1 x.1.1.2.1 x.1.2.1) (fun r => ((r, ()), ())) := yk func95 wcmx wcmw
theorem wbyg : waq prog (95, D_zbr) := waf mixed (wab (yc ⟨wbbk, yn⟩)) wag wbyf
theorem wcmy : ∀ x : D_zcj.T, ((wad waxf tt waxg (waa waxh) waka (entry wbth wbti x)).map (wz tt K_zcj)).ev = ((wajz x.1.1 x.1.2.1).map fun r => some (((((), ()), (r, ()))) : K_zcj.T)).ev := fun _ => by kernel_rfl
noncomputable def wanc : Code := ((wu waka).find? fun p => Nat.beq p.1 0).elim .skip (·.2)
theorem wblp : (wrq).OK waxf tt waxg (waa waxh) wanc := yl (fun _ => rfl) fun _ _ => by kernel_rfl
theorem wcmz : wo waxf tt waxg waxh waka := by
 have h : wu waka = [(0, wanc)] := by kernel_rfl
 unfold wo
 rw [h]
 exact yc ⟨fun d h => (by have e : some (wrq) = some d := h; cases e; exact wblp), yn⟩
theorem wbyh : FnOK prog waxf tt 155 D_zcj K_zcj waxg waxh f155 waka (fun x => wajz x.1.1 x.1.2.1) (fun r => (((), ()), (r, ()))) := yk func155 wcmz wcmy
theorem wbyi : waq prog (155, D_zcj) := waf mixed (wab (yn)) wag wbyh
theorem wcna : ∀ x : D_zci.T, ((wad waxj tt waxk (waa waxl) wakc (entry wbtj wbtk x)).map (wz tt K_zci)).ev = ((wakb x.1.1 x.1.2.1).map fun r => some ((((r, ()), ())) : K_zci.T)).ev := fun _ => by kernel_rfl
noncomputable def wand : Code := ((wu wakc).find? fun p => Nat.beq p.1 0).elim .skip (·.2)
theorem wblq : (wrs).OK waxj tt waxk (waa waxl) wand := yl (fun _ => rfl) fun _ _ => by kernel_rfl
theorem wcnb : wo waxj tt waxk waxl wakc := by
 have h : wu wakc = [(0, wand)] := by kernel_rfl
 unfold wo
 rw [h]
 exact yc ⟨fun d h => (by have e : some (wrs) = some d := h; cases e; exact wblq), yn⟩
theorem wbyj : FnOK prog waxj tt 191 D_zci K_zci waxk waxl f191 wakc (fun x => wakb x.1.1 x.1.2.1) (fun r => ((r, ()), ())) := yk func191 wcnb wcna
theorem wbyk : waq prog (191, D_zci) := waf mixed (wab (yn)) wag wbyj
theorem wcnc : ∀ x : D_zcr.T, ((wad wakg tt wakh (waa waki) wacv (entry wbtl wbtm x)).map (wz tt K_zcr)).ev = ((wakd x.1.1).map fun r => some ((((r, ()), ())) : K_zcr.T)).ev := fun _ => by kernel_rfl
noncomputable def wane : Code := ((wu wacv).find? fun p => Nat.beq p.1 2).elim .skip (·.2)
theorem wblr : (wru).OK wakg tt wakh (waa waki) wane := yl (fun _ => rfl) fun _ _ => by kernel_rfl
noncomputable def wanf : Code := ((wu wacv).find? fun p => Nat.beq p.1 0).elim .skip (·.2)
theorem wbls : (wrw).OK wakg tt wakh (waa waki) wanf := yl (fun _ => rfl) fun _ _ => by kernel_rfl
theorem wcnd : wo wakg tt wakh waki wacv := by
 have h : wu wacv = [(0, wanf), (2, wane)] := by kernel_rfl
 unfold wo
 rw [h]
 exact yc ⟨fun d h => (by have e : some (wrw) = some d := h; cases e; exact wbls), yc ⟨fun d h => (by have e : some (wru) = some d := h; cases e; exact wblr), yn⟩⟩
theorem wbyl : FnOK prog wakg tt 151 D_zcr K_zcr wakh waki f151 wacv (fun x => wakd x.1.1) (fun r => ((r, ()), ())) := yk func151 wcnd wcnc
theorem wbym : waq prog (151, D_zcr) := waf mixed (wab (yc ⟨wbyi, yc ⟨wbyk, yn⟩⟩)) wag wbyl
theorem wcne : ∀ x : D_zct.T, ((wad waxo tt waxp (waa waxq) wakk (entry wbtn wbto x)).map (wz tt K_zct)).ev = ((waxm x.1.1.1 x.1.1.2.1 x.1.2.1).map fun r => some ((((r, ()), ())) : K_zct.T)).ev := fun _ => by kernel_rfl
noncomputable def wang : Code := ((wu wakk).find? fun p => Nat.beq p.1 0).elim .skip (·.2)
theorem wblt : (wrx).OK waxo tt waxp (waa waxq) wang := yl (fun _ => rfl) fun _ _ => by kernel_rfl
theorem wcnf : wo waxo tt waxp waxq wakk := by
 have h : wu wakk = [(0, wang)] := by kernel_rfl
 unfold wo
 rw [h]
 exact yc ⟨fun d h => (by have e : some (wrx) = some d := h; cases e; exact wblt), yn⟩
theorem wbyn : FnOK prog waxo tt 98 D_zct K_zct waxp waxq f98 wakk (fun x => waxm x.1.1.1 x.1.1.2.1 x.1.2.1) (fun r => ((r, ()), ())) := yk func98 wcnf wcne
theorem wbyo : waq prog (98, D_zct) := waf mixed (wab (yc ⟨wbym, yc ⟨walv, yn⟩⟩)) wag wbyn
theorem wcng : ∀ x : D_zbs.T, ((wad wbji tt wbjj (waa wbjk) wbjl (entry wbtp wbtq x)).map (wz tt K_zbs)).ev = ((waxr x.1.1.1 x.1.1.2.1 x.1.2.1.1 x.1.2.1.2.1).map fun r => some ((((r, ()), ())) : K_zbs.T)).ev := fun _ => by kernel_rfl
theorem wcnh : wo wbji tt wbjj wbjk wbjl := yz (by kernel_rfl)
theorem wbyp : FnOK prog wbji tt 99 D_zbs K_zbs wbjj wbjk f99 wbjl (fun x => waxr x.1.1.1 x.1.1.2.1 x.1.2.1.1 x.1.2.1.2.1) (fun r => ((r, ()), ())) := yk func99 wcnh wcng
theorem wbyq : waq prog (99, D_zbs) := waf mixed (wab (yn)) wag wbyp
theorem wcni : ∀ x : D_zbq.T, ((wad waxu tt waxv (waa waxw) wakn (entry wbtr wbts x)).map (wz tt K_zbq)).ev = ((waxs x.1.1.1 x.1.1.2.1 x.1.2.1).map fun r => some ((((r.1, ((r.2.1, (r.2.2.1, ())), (r.2.2.2, ()))), ())) : K_zbq.T)).ev := fun _ => by kernel_rfl
noncomputable def wanh : Code := ((wu wakn).find? fun p => Nat.beq p.1 0).elim .skip (·.2)
theorem wblu : (wry).OK waxu tt waxv (waa waxw) wanh := yl (fun _ => rfl) fun _ _ => by kernel_rfl
theorem wcnj : wo waxu tt waxv waxw wakn := by
 have h : wu wakn = [(0, wanh)] := by kernel_rfl
 unfold wo
 rw [h]
 exact yc ⟨fun d h => (by have e : some (wry) = some d := h; cases e; exact wblu), yn⟩
theorem wbyr : FnOK prog waxu tt 28 D_zbq K_zbq waxv waxw f28 wakn (fun x => waxs x.1.1.1 x.1.1.2.1 x.1.2.1) (fun r => ((r.1, ((r.2.1, (r.2.2.1, ())), (r.2.2.2, ()))), ())) := yk func28 wcnj wcni
theorem wbys : waq prog (28, D_zbq) := waf mixed (wab (yc ⟨wbbj, yc ⟨wbyg, yc ⟨wbbl, yc ⟨walv, yc ⟨wbyo, yc ⟨wbyq, yn⟩⟩⟩⟩⟩⟩)) wag wbyr
theorem wcnk : ∀ x : D_zah.T, ((wad waxz tt waya (waa wayb) wakp (entry wbtt wbtu x)).map (wz tt K_zah)).ev = ((waxx x.1.1 x.1.2.1).map fun r => some ((((r, ()), ())) : K_zah.T)).ev := fun _ => by kernel_rfl
noncomputable def wani : Code := ((wu wakp).find? fun p => Nat.beq p.1 0).elim .skip (·.2)
theorem wblv : (wrz).OK waxz tt waya (waa wayb) wani := yl (fun _ => rfl) fun _ _ => by kernel_rfl
theorem wcnl : wo waxz tt waya wayb wakp := by
 have h : wu wakp = [(0, wani)] := by kernel_rfl
 unfold wo
 rw [h]
 exact yc ⟨fun d h => (by have e : some (wrz) = some d := h; cases e; exact wblv), yn⟩
theorem wbyt : FnOK prog waxz tt 101 D_zah K_zah waya wayb f101 wakp (fun x => waxx x.1.1 x.1.2.1) (fun r => ((r, ()), ())) := yk func101 wcnl wcnk
theorem wbyu : waq prog (101, D_zah) := waf mixed (wab (yn)) wag wbyt
theorem wcnm : ∀ x : D_zai.T, ((wad waye tt wayf (waa wayg) wakr (entry wbtv wbtw x)).map (wz tt K_zai)).ev = ((wayc x.1.1).map fun r => some (((((), ()), (r, ()))) : K_zai.T)).ev := fun _ => by kernel_rfl
noncomputable def wanj : Code := ((wu wakr).find? fun p => Nat.beq p.1 0).elim .skip (·.2)
theorem wblw : (wsa).OK waye tt wayf (waa wayg) wanj := yl (fun _ => rfl) fun _ _ => by kernel_rfl
theorem wcnn : wo waye tt wayf wayg wakr := by
 have h : wu wakr = [(0, wanj)] := by kernel_rfl
 unfold wo
 rw [h]
 exact yc ⟨fun d h => (by have e : some (wsa) = some d := h; cases e; exact wblw), yn⟩
theorem wbyv : FnOK prog waye tt 30 D_zai K_zai wayf wayg f30 wakr (fun x => wayc x.1.1) (fun r => (((), ()), (r, ()))) := yk func30 wcnn wcnm
theorem wbyw : waq prog (30, D_zai) := waf mixed (wab (yc ⟨wbyu, yn⟩)) wag wbyv
theorem e_ze : ∀ x : D_ze.T, ((wad E_ze tt Z_ze (waa O_ze) C_ze (entry A_ze I_ze x)).map (wz tt K_ze)).ev = ((T_ze x.1.1.1 x.1.1.2.1 x.1.2.1).map fun r => some ((((r, ()), ())) : K_ze.T)).ev := fun _ => by kernel_rfl
theorem o_ze : wo E_ze tt Z_ze O_ze C_ze := yz (by kernel_rfl)
theorem wcno : FnOK prog E_ze tt 152 D_ze K_ze Z_ze O_ze f152 C_ze (fun x => T_ze x.1.1.1 x.1.1.2.1 x.1.2.1) (fun r => ((r, ()), ())) := yk func152 o_ze e_ze
theorem wcnp : waq prog (152, D_ze) := waf mixed (wab (yc ⟨wbbv, yn⟩)) wag wcno
theorem e_zz : ∀ x : D_zz.T, ((wad E_zz tt Z_zz (waa O_zz) C_zz (entry A_zz I_zz x)).map (wz tt K_zz)).ev = ((T_zz x.1.1.1 x.1.1.2.1 x.1.2.1).map fun r => some ((((r, ()), ())) : K_zz.T)).ev := fun _ => by kernel_rfl
theorem o_zz : wo E_zz tt Z_zz O_zz C_zz := yz (by kernel_rfl)
theorem wcnq : FnOK prog E_zz tt 100 D_zz K_zz Z_zz O_zz f100 C_zz (fun x => T_zz x.1.1.1 x.1.1.2.1 x.1.2.1) (fun r => ((r, ()), ())) := yk func100 o_zz e_zz
theorem wcnr : waq prog (100, D_zz) := waf mixed (wab (yc ⟨wbkp, yc ⟨wcnp, yn⟩⟩)) wag wcnq
theorem e_zr : ∀ x : D_zr.T, ((wad E_zr tt Z_zr (waa O_zr) C_zr (entry A_zr I_zr x)).map (wz tt K_zr)).ev = ((T_zr x.1.1.1 x.1.1.2.1 x.1.2.1).map fun r => some ((((r.1, (r.2, ())), ())) : K_zr.T)).ev := fun _ => by kernel_rfl
theorem o_zr : wo E_zr tt Z_zr O_zr C_zr := yz (by kernel_rfl)
theorem wcns : FnOK prog E_zr tt 29 D_zr K_zr Z_zr O_zr f29 C_zr (fun x => T_zr x.1.1.1 x.1.1.2.1 x.1.2.1) (fun r => ((r.1, (r.2, ())), ())) := yk func29 o_zr e_zr
theorem wcnt : waq prog (29, D_zr) := waf mixed (wab (yc ⟨wcnr, yc ⟨wana, yn⟩⟩)) wag wcns
theorem e_zy : ∀ x : D_zy.T, ((wad E_zy tt Z_zy (waa O_zy) C_zy (entry A_zy I_zy x)).map (wz tt K_zy)).ev = ((T_zy x.1.1.1 x.1.1.2.1 x.1.2.1).map fun r => some ((((r, ()), ())) : K_zy.T)).ev := fun _ => by kernel_rfl
theorem o_zy : wo E_zy tt Z_zy O_zy C_zy := yz (by kernel_rfl)
theorem wcnu : FnOK prog E_zy tt 102 D_zy K_zy Z_zy O_zy f102 C_zy (fun x => T_zy x.1.1.1 x.1.1.2.1 x.1.2.1) (fun r => ((r, ()), ())) := yk func102 o_zy e_zy
theorem wcnv : waq prog (102, D_zy) := waf mixed (wab (yc ⟨wbkp, yc ⟨wayl, yn⟩⟩)) wag wcnu
theorem e_zo : ∀ x : D_zo.T, ((wad E_zo tt Z_zo (waa O_zo) C_zo (entry A_zo I_zo x)).map (wz tt K_zo)).ev = ((T_zo x.1.1.1 x.1.1.2.1 x.1.2.1).map fun r => some ((((r.1, (r.2, ())), ())) : K_zo.T)).ev := fun _ => by kernel_rfl
theorem o_zo : wo E_zo tt Z_zo O_zo C_zo := yz (by kernel_rfl)
theorem wcnw : FnOK prog E_zo tt 31 D_zo K_zo Z_zo O_zo f31 C_zo (fun x => T_zo x.1.1.1 x.1.1.2.1 x.1.2.1) (fun r => ((r.1, (r.2, ())), ())) := yk func31 o_zo e_zo
theorem wcnx : waq prog (31, D_zo) := waf mixed (wab (yc ⟨wcnv, yc ⟨wbyc, yc ⟨wana, yn⟩⟩⟩)) wag wcnw
theorem wcny : ∀ x : D_zaf.T, ((wad wayi tt wayj (waa wayk) wakt (entry wbtx wbty x)).map (wz tt K_zaf)).ev = ((wayh x.1.1).map fun r => some ((((r, ()), ())) : K_zaf.T)).ev := fun _ => by kernel_rfl
noncomputable def wank : Code := ((wu wakt).find? fun p => Nat.beq p.1 0).elim .skip (·.2)
theorem wblx : (wsb).OK wayi tt wayj (waa wayk) wank := yl (fun _ => rfl) fun _ _ => by kernel_rfl
theorem wcnz : wo wayi tt wayj wayk wakt := by
 have h : wu wakt = [(0, wank)] := by kernel_rfl
 unfold wo
 rw [h]
 exact yc ⟨fun d h => (by have e : some (wsb) = some d := h; cases e; exact wblx), yn⟩
theorem wbyx : FnOK prog wayi tt 5 D_zaf K_zaf wayj wayk f5 wakt (fun x => wayh x.1.1) (fun r => ((r, ()), ())) := yk func5 wcnz wcny
theorem wbyy : waq prog (5, D_zaf) := waf mixed (wab (yc ⟨wbua, yc ⟨wbvr, yc ⟨wcmv, yc ⟨wbys, yc ⟨wbyw, yc ⟨wcnt, yc ⟨wcnx, yn⟩⟩⟩⟩⟩⟩⟩)) wag wbyx
end Go.Proofs.YtbofjefpngpegaaGreat
