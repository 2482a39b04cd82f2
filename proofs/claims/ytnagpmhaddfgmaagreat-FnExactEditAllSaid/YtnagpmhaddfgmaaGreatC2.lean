import Derived.Test.YtnagpmhaddfgmaaGreatC1
namespace Go.Proofs.YtnagpmhaddfgmaaGreat
open Go.Proofs.Tryz
open List (length getD set)
open Int (toNat)
open IntKind (wrap)
theorem mixed : prog.follows .mixedOrders = true := by kernel_rfl
theorem tabOK : TabOK prog tt := tab_ok (by kernel_rfl)
theorem wfp : FDok prog (134, wfw) := fn_ok mixed (env_ok (fdN)) tabOK (fnMk wfw (envOf []) wagw noZ [] ((f134.body).getD .skip) (fun x => wnw x.1.1 x.1.2.1) (fun r => ((r, ()), ())) func134 (lpMk (by kernel_rfl) lpN) fun _ => by kernel_rfl)
theorem wyt : (wdo).OK wnz tt noZ (orcOf woa) (loopAt wob 0) := ldMk (fun _ => rfl) fun _ _ => by kernel_rfl
theorem wang : LoopsOK wnz tt noZ woa wob := lpMk (by kernel_rfl) (lpC wyt lpN)
theorem wadb : FDok prog (208, wny) := fn_ok mixed (env_ok (fdC wfp fdN)) tabOK (fnMk wny wnz wagx noZ woa wob (fun x => wnx x.1.1 x.1.2.1) (fun r => ((r, ()), ())) func208 wang fun _ => by kernel_rfl)
theorem wadc : FDok prog (133, wod) := fn_ok mixed (env_ok (fdC wfp (fdC wadb fdN))) tabOK (fnMk wod (envOf [(134, wfw), (208, wny)]) wagy noZ [] ((f133.body).getD .skip) (fun x => woc x.1.1.1 x.1.1.2.1 x.1.2.1) (fun r => ((r, ()), ())) func133 (lpMk (by kernel_rfl) lpN) fun _ => by kernel_rfl)
theorem wadd : FDok prog (40, wof) := fn_ok mixed (env_ok (fdC wadc (fdC wfp fdN))) tabOK (fnMk wof (envOf [(133, wod), (134, wfw)]) wagz noZ [] ((f40.body).getD .skip) (fun x => woe x.1.1.1 x.1.1.2.1 x.1.1.2.2.1 x.1.1.2.2.2.1 x.1.2.1) (fun r => ((r, ()), ())) func40 (lpMk (by kernel_rfl) lpN) fun _ => by kernel_rfl)
theorem wade : FDok prog (41, woh) := fn_ok mixed (env_ok (fdC wfp fdN)) tabOK (fnMk woh (envOf [(134, wfw)]) waha noZ [] ((f41.body).getD .skip) (fun x => wog x.1.1.1 x.1.1.2.1 x.1.1.2.2.1 x.1.1.2.2.2.1 x.1.1.2.2.2.2.1 x.1.2.1) (fun r => ((r, ()), ())) func41 (lpMk (by kernel_rfl) lpN) fun _ => by kernel_rfl)
theorem wyu : (wdp).OK wok tt noZ (orcOf wol) (loopAt wom 0) := ldMk (fun _ => rfl) fun _ _ => by kernel_rfl
theorem wanh : LoopsOK wok tt noZ wol wom := lpMk (by kernel_rfl) (lpC wyu lpN)
theorem wadf : FDok prog (51, woj) := fn_ok mixed (env_ok (fdC wade fdN)) tabOK (fnMk woj wok wahb noZ wol wom (fun x => woi x.1.1 x.1.2.1) (fun r => ((r, ()), ())) func51 wanh fun _ => by kernel_rfl)
theorem wyv : (wdq).OK woo tt noZ (orcOf wop) (loopAt woq 0) := ldMk (fun _ => rfl) fun _ _ => by kernel_rfl
theorem wani : LoopsOK woo tt noZ wop woq := lpMk (by kernel_rfl) (lpC wyv lpN)
theorem wfq : FDok prog (138, wfx) := fn_ok mixed (env_ok (fdN)) tabOK (fnMk wfx woo wahc noZ wop woq (fun x => won x.1.1) (fun r => (((), ()), (r, ()))) func138 wani fun _ => by kernel_rfl)
theorem wyw : (wdr).OK wou tt wot (orcOf wov) (loopAt wow 0) := ldMk (fun _ => rfl) fun _ _ => by kernel_rfl
theorem wanj : LoopsOK wou tt wot wov wow := lpMk (by kernel_rfl) (lpC wyw lpN)
theorem wadg : FDok prog (212, wos) := fn_ok mixed (env_ok (fdC wfq fdN)) tabOK (fnMk wos wou wahd wot wov wow (fun x => wor x.1.1) (fun r => (((), ()), (r, ()))) func212 wanj fun _ => by kernel_rfl)
theorem wadh : FDok prog (137, woy) := fn_ok mixed (env_ok (fdC wfq (fdC wadg fdN))) tabOK (fnMk woy (envOf [(138, wfx), (212, wos)]) wahe noZ [] ((f137.body).getD .skip) (fun x => wox x.1.1.1 x.1.1.2.1) (fun r => ((((), ((), ())), ()), (r.1, (r.2, ())))) func137 (lpMk (by kernel_rfl) lpN) fun _ => by kernel_rfl)
theorem wadi : FDok prog (43, wpa) := fn_ok mixed (env_ok (fdC wadh (fdC wfq fdN))) tabOK (fnMk wpa (envOf [(137, woy), (138, wfx)]) wahf noZ [] ((f43.body).getD .skip) (fun x => woz x.1.1.1 x.1.1.2.1 x.1.1.2.2.1 x.1.1.2.2.2.1) (fun r => ((((), ((), ((), (r.1, ())))), ()), (r.2.1, (r.2.2.1, (r.2.2.2, ()))))) func43 (lpMk (by kernel_rfl) lpN) fun _ => by kernel_rfl)
theorem wadj : FDok prog (44, wpc) := fn_ok mixed (env_ok (fdC wfq fdN)) tabOK (fnMk wpc (envOf [(138, wfx)]) wahg noZ [] ((f44.body).getD .skip) (fun x => wpb x.1.1.1 x.1.1.2.1 x.1.1.2.2.1 x.1.1.2.2.2.1 x.1.1.2.2.2.2.1) (fun r => (((r.1, (r.2.1, (r.2.2.1, (r.2.2.2.1, ((), ()))))), ()), (r.2.2.2.2, ()))) func44 (lpMk (by kernel_rfl) lpN) fun _ => by kernel_rfl)
theorem wyx : (wds).OK wpg tt wpf (orcOf wph) (loopAt wpi 0) := ldMk (fun _ => rfl) fun _ _ => by kernel_rfl
theorem wank : LoopsOK wpg tt wpf wph wpi := lpMk (by kernel_rfl) (lpC wyx lpN)
theorem wadk : FDok prog (53, wpe) := fn_ok mixed (env_ok (fdC wadj fdN)) tabOK (fnMk wpe wpg wahh wpf wph wpi (fun x => wpd x.1.1) (fun r => (((), ()), (r, ()))) func53 wank fun _ => by kernel_rfl)
theorem wca : FDok prog (130, wcg) := fn_ok mixed (env_ok (fdN)) tabOK (fnMk wcg (envOf []) wahi noZ [] ((f130.body).getD .skip) (fun x => wpj x.1.1 x.1.2.1 x.1.2.2.1) (fun r => ((r, ()), ())) func130 (lpMk (by kernel_rfl) lpN) fun _ => by kernel_rfl)
theorem wyy : (wdt).OK wpn tt noZ (orcOf wpo) (loopAt wpp 0) := ldMk (fun _ => rfl) fun _ _ => by kernel_rfl
theorem wanl : LoopsOK wpn tt noZ wpo wpp := lpMk (by kernel_rfl) (lpC wyy lpN)
theorem wadl : FDok prog (200, wpm) := fn_ok mixed (env_ok (fdC wca fdN)) tabOK (fnMk wpm wpn wahj noZ wpo wpp (fun x => wpk x.1.1 x.1.2.1 x.1.2.2.1) (fun r => ((r, ()), ())) func200 wanl fun _ => by kernel_rfl)
theorem wyz : (wdu).OK wpr tt noZ (orcOf wps) (loopAt wpt 0) := ldMk (fun _ => rfl) fun _ _ => by kernel_rfl
theorem wanm : LoopsOK wpr tt noZ wps wpt := lpMk (by kernel_rfl) (lpC wyz lpN)
theorem wne : FDok prog (166, wkf) := fn_ok mixed (env_ok (fdC wadl (fdC wca fdN))) tabOK (fnMk wkf wpr wahk noZ wps wpt (fun x => wpq x.1.1.1 x.1.1.2.1) (fun r => ((r, ()), ())) func166 wanm fun _ => by kernel_rfl)
theorem wza : (wdv).OK wpw tt noZ (orcOf wpx) (loopAt wpy 0) := ldMk (fun _ => rfl) fun _ _ => by kernel_rfl
theorem wann : LoopsOK wpw tt noZ wpx wpy := lpMk (by kernel_rfl) (lpC wza lpN)
theorem wadm : FDok prog (122, wpv) := fn_ok mixed (env_ok (fdC wca fdN)) tabOK (fnMk wpv wpw wahl noZ wpx wpy (fun x => wpu x.1.1 x.1.2.1 x.1.2.2.1) (fun r => ((r, ()), ())) func122 wann fun _ => by kernel_rfl)
theorem wnf : FDok prog (196, wkh) := fn_ok mixed (env_ok (fdC wadm fdN)) tabOK (fnMk wkh (envOf [(122, wpv)]) wahm noZ [] ((f196.body).getD .skip) (fun x => wpz x.1.1.1 x.1.1.2.1 x.1.2.1) (fun r => ((r, ()), ())) func196 (lpMk (by kernel_rfl) lpN) fun _ => by kernel_rfl)
theorem wng : FDok prog (135, wki) := fn_ok mixed (env_ok (fdC wne (fdC wnf (fdC wca fdN)))) tabOK (fnMk wki (envOf [(166, wkf), (196, wkh), (130, wcg)]) wahn noZ [] ((f135.body).getD .skip) (fun x => wqa x.1.1.1 x.1.1.2.1 x.1.1.2.2.1 x.1.1.2.2.2.1) (fun r => ((r, ()), ())) func135 (lpMk (by kernel_rfl) lpN) fun _ => by kernel_rfl)
theorem wfr : FDok prog (173, wfy) := fn_ok mixed (env_ok (fdN)) tabOK (fnMk wfy (envOf []) waho noZ [] ((f173.body).getD .skip) (fun x => wqb x.1.1) (fun r => (((), ()), (r, ()))) func173 (lpMk (by kernel_rfl) lpN) fun _ => by kernel_rfl)
theorem wzb : (wdw).OK wqe tt wqd (orcOf wqf) (loopAt wqg 0) := ldMk (fun _ => rfl) fun _ _ => by kernel_rfl
theorem wano : LoopsOK wqe tt wqd wqf wqg := lpMk (by kernel_rfl) (lpC wzb lpN)
theorem wjp : FDok prog (156, wgr) := fn_ok mixed (env_ok (fdC wfr fdN)) tabOK (fnMk wgr wqe wahp wqd wqf wqg (fun x => wqc x.1.1.1 x.1.1.2.1 x.1.1.2.2.1 x.1.1.2.2.2.1) (fun r => ((((), ((), ((), (r.1, ())))), ()), (r.2.1, (r.2.2.1, (r.2.2.2, ()))))) func156 wano fun _ => by kernel_rfl)
theorem wadn : FDok prog (209, wqi) := fn_ok mixed (env_ok (fdN)) tabOK (fnMk wqi (envOf []) wahq noZ [] ((f209.body).getD .skip) (fun x => wqh x.1.1.1 x.1.1.2.1 x.1.1.2.2.1 x.1.1.2.2.2.1 x.1.1.2.2.2.2.1) (fun r => ((r, ()), ())) func209 (lpMk (by kernel_rfl) lpN) fun _ => by kernel_rfl)
theorem wnh : FDok prog (244, wkk) := fn_ok mixed (env_ok (fdC wca fdN)) tabOK (fnMk wkk (envOf [(130, wcg)]) wahr noZ [] ((f244.body).getD .skip) (fun x => wqj x.1.1.1 x.1.1.2.1 x.1.2.1) (fun r => ((r, ()), ())) func244 (lpMk (by kernel_rfl) lpN) fun _ => by kernel_rfl)
theorem wzc : (wdx).OK wql tt noZ (orcOf wqm) (loopAt wqn 0) := ldMk (fun _ => rfl) fun _ _ => by kernel_rfl
theorem wanp : LoopsOK wql tt noZ wqm wqn := lpMk (by kernel_rfl) (lpC wzc lpN)
theorem wjq : FDok prog (112, wgt) := fn_ok mixed (env_ok (fdN)) tabOK (fnMk wgt wql wahs noZ wqm wqn (fun x => wqk x.1.1 x.1.2.1) (fun r => ((r, ()), ())) func112 wanp fun _ => by kernel_rfl)
theorem wado : FDok prog (243, wqp) := fn_ok mixed (env_ok (fdC wnh (fdC wjq fdN))) tabOK (fnMk wqp (envOf [(244, wkk), (112, wgt)]) waht noZ [] ((f243.body).getD .skip) (fun x => wqo x.1.1.1 x.1.1.2.1 x.1.1.2.2.1 x.1.1.2.2.2.1 x.1.2.1) (fun r => ((r, ()), ())) func243 (lpMk (by kernel_rfl) lpN) fun _ => by kernel_rfl)
theorem wadp : FDok prog (210, wqr) := fn_ok mixed (env_ok (fdC wado (fdC wjq (fdC wnh (fdC wca fdN))))) tabOK (fnMk wqr (envOf [(243, wqp), (112, wgt), (244, wkk), (130, wcg)]) wahu noZ [] ((f210.body).getD .skip) (fun x => wqq x.1.1.1 x.1.1.2.1 x.1.1.2.2.1 x.1.1.2.2.2.1 x.1.2.1.1 x.1.2.1.2.1 x.1.2.1.2.2.1 x.1.2.1.2.2.2.1 x.1.2.1.2.2.2.2.1) (fun r => ((r, ()), ())) func210 (lpMk (by kernel_rfl) lpN) fun _ => by kernel_rfl)
theorem wzd : (wdy).OK wqu tt wqt (orcOf wqv) (loopAt wqw 0) := ldMk (fun _ => rfl) fun _ _ => by kernel_rfl
theorem wanq : LoopsOK wqu tt wqt wqv wqw := lpMk (by kernel_rfl) (lpC wzd lpN)
theorem wni : FDok prog (169, wkm) := fn_ok mixed (env_ok (fdN)) tabOK (fnMk wkm wqu wahv wqt wqv wqw (fun x => wqs x.1.1 x.1.2.1) (fun r => (((), ()), (r, ()))) func169 wanq fun _ => by kernel_rfl)
theorem wze : (wdz).OK wqy tt noZ (orcOf wqz) (loopAt wra 0) := ldMk (fun _ => rfl) fun _ _ => by kernel_rfl
theorem wanr : LoopsOK wqy tt noZ wqz wra := lpMk (by kernel_rfl) (lpC wze lpN)
theorem wnj : FDok prog (245, wkn) := fn_ok mixed (env_ok (fdN)) tabOK (fnMk wkn wqy wahw noZ wqz wra (fun x => wqx x.1.1 x.1.2.1) (fun r => (((), ()), (r, ()))) func245 wanr fun _ => by kernel_rfl)
theorem wadq : FDok prog (265, wrc) := fn_ok mixed (env_ok (fdC wfr fdN)) tabOK (fnMk wrc (envOf [(173, wfy)]) wahx noZ [] ((f265.body).getD .skip) (fun x => wrb x.1.1 x.1.2.1) (fun r => (((), ()), (r, ()))) func265 (lpMk (by kernel_rfl) lpN) fun _ => by kernel_rfl)
theorem wzf : (wea).OK wkp tt noZ (orcOf wkr) (loopAt wks 0) := ldMk (fun _ => rfl) fun _ _ => by kernel_rfl
theorem wzg : (web).OK wkp tt noZ (orcOf wkr) (loopAt wks 2) := ldMk (fun _ => rfl) fun _ _ => by kernel_rfl
theorem wans : LoopsOK wkp tt noZ wkr wks := lpMk (by kernel_rfl) (lpC wzf (lpC wzg lpN))
theorem wadr : FDok prog (246, wre) := fn_ok mixed (env_ok (fdC wjp (fdC wadq fdN))) tabOK (fnMk wre wkp wahy noZ wkr wks (fun x => wrd x.1.1.1 x.1.1.2.1 x.1.1.2.2.1 x.1.1.2.2.2.1 x.1.2.1) (fun r => ((((), ((), ((), (r.1, ())))), ()), (r.2.1, (r.2.2.1, (r.2.2.2, ()))))) func246 wans fun _ => by kernel_rfl)
theorem wads : FDok prog (101, wrg) := fn_ok mixed (env_ok (fdC wne (fdC wnf fdN))) tabOK (fnMk wrg (envOf [(166, wkf), (196, wkh)]) wahz noZ [] ((f101.body).getD .skip) (fun x => wrf x.1.1.1 x.1.1.2.1 x.1.2.1) (fun r => ((r, ()), ())) func101 (lpMk (by kernel_rfl) lpN) fun _ => by kernel_rfl)
theorem wzh : (wec).OK wha tt wgz (orcOf whb) (loopAt whc 2) := ldMk (fun _ => rfl) fun _ _ => by kernel_rfl
theorem wdm : (wan).OK wha tt wgz (orcOf whb) (loopAt whc 2) := ldMk (fun _ => rfl) fun _ _ => by kernel_rfl
theorem wzi : (wed).OK wha tt wgz (orcOf whb) (loopAt whc 0) := ldMk (fun _ => rfl) fun _ _ => by kernel_rfl
theorem wanu : LoopsOK wha tt wgz whb whc := lpMk (by kernel_rfl) (lpC wzh (lpC wdm (lpC wzi lpN)))
theorem wadt : FDok prog (227, wri) := fn_ok mixed (env_ok (fdC wjq (fdC wni (fdC wnj fdN)))) tabOK (fnMk wri wha waia wgz whb whc (fun x => wrh x.1.1.1 x.1.1.2.1 x.1.2.1) (fun r => (((), ()), (r, ()))) func227 wanu fun _ => by kernel_rfl)
theorem wzj : (wee).OK wrl tt noZ (orcOf wrm) (loopAt wrn 0) := ldMk (fun _ => rfl) fun _ _ => by kernel_rfl
theorem wanv : LoopsOK wrl tt noZ wrm wrn := lpMk (by kernel_rfl) (lpC wzj lpN)
theorem wadu : FDok prog (262, wrk) := fn_ok mixed (env_ok (fdN)) tabOK (fnMk wrk wrl waib noZ wrm wrn (fun x => wrj x.1.1.1 x.1.1.2.1 x.1.2.1 x.1.2.2.1) (fun r => ((r, ()), ())) func262 wanv fun _ => by kernel_rfl)
theorem wadv : FDok prog (239, wrp) := fn_ok mixed (env_ok (fdC wadu fdN)) tabOK (fnMk wrp (envOf [(262, wrk)]) waic noZ [] ((f239.body).getD .skip) (fun x => wro x.1.1.1 x.1.1.2.1 x.1.2.1 x.1.2.2.1) (fun r => ((r, ()), ())) func239 (lpMk (by kernel_rfl) lpN) fun _ => by kernel_rfl)
theorem wzk : (wef).OK wrs tt noZ (orcOf wrt) (loopAt wru 0) := ldMk (fun _ => rfl) fun _ _ => by kernel_rfl
theorem wanw : LoopsOK wrs tt noZ wrt wru := lpMk (by kernel_rfl) (lpC wzk lpN)
theorem wadw : FDok prog (190, wrr) := fn_ok mixed (env_ok (fdC wadv fdN)) tabOK (fnMk wrr wrs waid noZ wrt wru (fun x => wrq x.1.1.1 x.1.1.2.1 x.1.2.1) (fun r => ((r, ()), ())) func190 wanw fun _ => by kernel_rfl)
theorem wzl : (weg).OK wrx tt noZ (orcOf wry) (loopAt wrz 0) := ldMk (fun _ => rfl) fun _ _ => by kernel_rfl
theorem wanx : LoopsOK wrx tt noZ wry wrz := lpMk (by kernel_rfl) (lpC wzl lpN)
theorem wadx : FDok prog (191, wrw) := fn_ok mixed (env_ok (fdN)) tabOK (fnMk wrw wrx waie noZ wry wrz (fun x => wrv x.1.1.1 x.1.1.2.1 x.1.2.1) (fun r => ((r, ()), ())) func191 wanx fun _ => by kernel_rfl)
theorem wnk : FDok prog (192, wkz) := fn_ok mixed (env_ok (fdC wadw (fdC wadx fdN))) tabOK (fnMk wkz (envOf [(190, wrr), (191, wrw)]) waif noZ [] ((f192.body).getD .skip) (fun x => wsa x.1.1.1 x.1.1.2.1 x.1.2.1) (fun r => ((r, ()), ())) func192 (lpMk (by kernel_rfl) lpN) fun _ => by kernel_rfl)
theorem wzm : (weh).OK wsd tt noZ (orcOf wsf) (loopAt wsg 0) := ldMk (fun _ => rfl) fun _ _ => by kernel_rfl
theorem wany : LoopsOK wsd tt noZ wsf wsg := lpMk (by kernel_rfl) (lpC wzm lpN)
theorem wady : FDok prog (172, wsc) := fn_ok mixed (env_ok (fdC wadt (fdC wnk fdN))) tabOK (fnMk wsc wsd waig noZ wsf wsg (fun x => wsb x.1.1.1 x.1.1.2.1 x.1.2.1) (fun r => (((), (r.1, ())), (r.2, ()))) func172 wany fun _ => by kernel_rfl)
theorem wzn : (wei).OK wsj tt noZ (orcOf wsk) (loopAt wsl 0) := ldMk (fun _ => rfl) fun _ _ => by kernel_rfl
theorem wanz : LoopsOK wsj tt noZ wsk wsl := lpMk (by kernel_rfl) (lpC wzn lpN)
theorem wadz : FDok prog (78, wsi) := fn_ok mixed (env_ok (fdC wads (fdC wfr (fdC wady fdN)))) tabOK (fnMk wsi wsj waih noZ wsk wsl (fun x => wsh x.1.1.1 x.1.1.2.1 x.1.2.1) (fun r => (((), (r.1, (r.2.1, ()))), (r.2.2, ()))) func78 wanz fun _ => by kernel_rfl)
theorem wzo : (wej).OK wso tt noZ (orcOf wsp) (loopAt wsq 0) := ldMk (fun _ => rfl) fun _ _ => by kernel_rfl
theorem waoa : LoopsOK wso tt noZ wsp wsq := lpMk (by kernel_rfl) (lpC wzo lpN)
theorem waea : FDok prog (119, wsn) := fn_ok mixed (env_ok (fdN)) tabOK (fnMk wsn wso waii noZ wsp wsq (fun x => wabd x.1.1 x.1.2.1) (fun r => (((), ()), (r, ()))) func119 waoa fun _ => by kernel_rfl)
theorem wzp : (wek).OK wsu tt noZ (orcOf wsv) (loopAt wsw 0) := ldMk (fun _ => rfl) fun _ _ => by kernel_rfl
theorem waob : LoopsOK wsu tt noZ wsv wsw := lpMk (by kernel_rfl) (lpC wzp lpN)
theorem waeb : FDok prog (189, wss) := fn_ok mixed (env_ok (fdN)) tabOK (fnMk wss wsu waij noZ wsv wsw (fun x => wabf x.1.1 x.1.2.1) (fun r => ((r, ()), ())) func189 waob fun _ => by kernel_rfl)
theorem wzq : (wel).OK wle tt wlc (orcOf wlf) (loopAt wlg 2) := ldMk (fun _ => rfl) fun _ _ => by kernel_rfl
theorem wzr : (wem).OK wle tt wlc (orcOf wlf) (loopAt wlg 0) := ldMk (fun _ => rfl) fun _ _ => by kernel_rfl
theorem waoc : LoopsOK wle tt wlc wlf wlg := lpMk (by kernel_rfl) (lpC wzq (lpC wzr lpN))
theorem waec : FDok prog (96, wsz) := fn_ok mixed (env_ok (fdC waea (fdC waeb fdN))) tabOK (fnMk wsz wle waik wlc wlf wlg (fun x => wabh x.1.1) (fun r => ((r, ()), ())) func96 waoc fun _ => by kernel_rfl)
theorem wzs : (wen).OK wtc tt noZ (orcOf wtd) (loopAt wte 0) := ldMk (fun _ => rfl) fun _ _ => by kernel_rfl
theorem waod : LoopsOK wtc tt noZ wtd wte := lpMk (by kernel_rfl) (lpC wzs lpN)
theorem waed : FDok prog (247, wtb) := fn_ok mixed (env_ok (fdC waec (fdC wnk fdN))) tabOK (fnMk wtb wtc wail noZ wtd wte (fun x => wta x.1.1.1 x.1.1.2.1) (fun r => ((r, ()), ())) func247 waod fun _ => by kernel_rfl)
theorem wzt : (weo).OK wth tt noZ (orcOf wti) (loopAt wtj 1) := ldMk (fun _ => rfl) fun _ _ => by kernel_rfl
theorem waoe : LoopsOK wth tt noZ wti wtj := lpMk (by kernel_rfl) (lpC wzt lpN)
theorem waee : FDok prog (211, wtg) := fn_ok mixed (env_ok (fdC wjp (fdC wni (fdC wnj (fdC wfr (fdC wadr (fdC wadz (fdC waed fdN)))))))) tabOK (fnMk wtg wth waim noZ wti wtj (fun x => wtf x.1.1.1 x.1.1.2.1 x.1.1.2.2.1 x.1.1.2.2.2.1 x.1.2.1.1 x.1.2.1.2.1 x.1.2.1.2.2.1 x.1.2.1.2.2.2.1 x.1.2.1.2.2.2.2.1) (fun r => ((((), ((), ((), (r.1, ())))), ()), (r.2.1, (r.2.2.1, (r.2.2.2, ()))))) func211 waoe fun _ => by kernel_rfl)
theorem waef : FDok prog (136, wtl) := fn_ok mixed (env_ok (fdC wadn (fdC wadp (fdC waee (fdC wng fdN))))) tabOK (fnMk wtl (envOf [(209, wqi), (210, wqr), (211, wtg), (135, wki)]) wain noZ [] ((f136.body).getD .skip) (fun x => wtk x.1.1.1 x.1.1.2.1 x.1.1.2.2.1 x.1.1.2.2.2.1 x.1.2.1.1 x.1.2.1.2.1 x.1.2.1.2.2.1 x.1.2.1.2.2.2.1 x.1.2.1.2.2.2.2.1) (fun r => ((((), ((), ((), (r.1, ())))), (r.2.1, ())), (r.2.2.1, (r.2.2.2.1, (r.2.2.2.2, ()))))) func136 (lpMk (by kernel_rfl) lpN) fun _ => by kernel_rfl)
theorem wzu : (wep).OK wtn tt noZ (orcOf wto) (loopAt wtp 0) := ldMk (fun _ => rfl) fun _ _ => by kernel_rfl
theorem waof : LoopsOK wtn tt noZ wto wtp := lpMk (by kernel_rfl) (lpC wzu lpN)
theorem waeg : FDok prog (52, wtm) := fn_ok mixed (env_ok (fdC wng (fdC wjp (fdC waef fdN)))) tabOK (fnMk wtm wtn waio noZ wto wtp (fun x => wlk x.1.1.1 x.1.1.2.1 x.1.1.2.2.1 x.1.1.2.2.2.1 x.1.2.1) (fun r => (((r.1, (r.2.1, (r.2.2.1, (r.2.2.2.1, ())))), (r.2.2.2.2.1, (r.2.2.2.2.2, ()))), ())) func52 waof fun _ => by kernel_rfl)
theorem wcb : FDok prog (104, wcj) := fn_ok mixed (env_ok (fdN)) tabOK (fnMk wcj (envOf []) waip noZ [] ((f104.body).getD .skip) (fun x => wtq x.1.1 x.1.2.1 x.1.2.2.1) (fun r => ((r, ()), ())) func104 (lpMk (by kernel_rfl) lpN) fun _ => by kernel_rfl)
theorem wzv : (weq).OK wtu tt noZ (orcOf wtv) (loopAt wtw 0) := ldMk (fun _ => rfl) fun _ _ => by kernel_rfl
theorem waog : LoopsOK wtu tt noZ wtv wtw := lpMk (by kernel_rfl) (lpC wzv lpN)
theorem waeh : FDok prog (206, wts) := fn_ok mixed (env_ok (fdN)) tabOK (fnMk wts wtu waiq noZ wtv wtw (fun x => wtr x.1.1 x.1.2.1) (fun r => ((r, ()), ())) func206 waog fun _ => by kernel_rfl)
theorem wnl : FDok prog (126, wln) := fn_ok mixed (env_ok (fdC waeh fdN)) tabOK (fnMk wln (envOf [(206, wts)]) wair noZ [] ((f126.body).getD .skip) (fun x => wtx x.1.1 x.1.2.1) (fun r => ((r, ()), ())) func126 (lpMk (by kernel_rfl) lpN) fun _ => by kernel_rfl)
theorem waoh : FDok prog (201, D_zy) := fn_ok mixed (env_ok (fdC wcb fdN)) tabOK (fnMk D_zy (envOf [(104, wcj)]) K_zy noZ [] ((f201.body).getD .skip) (fun x => T_zy x.1.1 x.1.2.1.1 x.1.2.2.1.1) (fun r => ((r, ()), ())) func201 (lpMk (by kernel_rfl) lpN) fun _ => by kernel_rfl)
theorem waei : FDok prog (116, D_zx) := fn_ok mixed (env_ok (fdC wnl (fdC wnl (fdC waoh fdN)))) tabOK (fnMk D_zx (envOf [(126, wln), (126, wln), (201, D_zy)]) K_zx noZ [] ((f116.body).getD .skip) (fun x => T_zx x.1.1 x.1.2.1 x.1.2.2.1) (fun r => ((r, ()), ())) func116 (lpMk (by kernel_rfl) lpN) fun _ => by kernel_rfl)
theorem wzw : (wer).OK wua tt noZ (orcOf wub) (loopAt wuc 0) := ldMk (fun _ => rfl) fun _ _ => by kernel_rfl
theorem waoi : LoopsOK wua tt noZ wub wuc := lpMk (by kernel_rfl) (lpC wzw lpN)
theorem waej : FDok prog (131, wtz) := fn_ok mixed (env_ok (fdN)) tabOK (fnMk wtz wua waix noZ wub wuc (fun x => wty x.1.1 x.1.2.1) (fun r => ((r, ()), ())) func131 waoi fun _ => by kernel_rfl)
theorem wno : FDok prog (218, wlr) := fn_ok mixed (env_ok (fdC waej fdN)) tabOK (fnMk wlr (envOf [(131, wtz)]) waiy noZ [] ((f218.body).getD .skip) (fun x => wud x.1.1 x.1.2.1) (fun r => ((r, ()), ())) func218 (lpMk (by kernel_rfl) lpN) fun _ => by kernel_rfl)
theorem waoj : FDok prog (219, D_zv) := fn_ok mixed (env_ok (fdC waei fdN)) tabOK (fnMk D_zv (envOf [(116, D_zx)]) K_zv noZ [] ((f219.body).getD .skip) (fun x => T_zv x.1.1 x.1.2.1.1 x.1.2.1.2.1) (fun r => ((r, ()), ())) func219 (lpMk (by kernel_rfl) lpN) fun _ => by kernel_rfl)
theorem wzx : FDok prog (157, D_zu) := fn_ok mixed (env_ok (fdC wcb (fdC waei (fdC wno (fdC wno (fdC waoj fdN)))))) tabOK (fnMk D_zu (envOf [(104, wcj), (116, D_zx), (218, wlr), (218, wlr), (219, D_zv)]) K_zu noZ [] ((f157.body).getD .skip) (fun x => T_zu x.1.1.1 x.1.1.2.1) (fun r => ((r, ()), ())) func157 (lpMk (by kernel_rfl) lpN) fun _ => by kernel_rfl)
theorem wzy : (wes).OK wuf tt noZ (orcOf wug) (loopAt wuh 0) := ldMk (fun _ => rfl) fun _ _ => by kernel_rfl
theorem waok : LoopsOK wuf tt noZ wug wuh := lpMk (by kernel_rfl) (lpC wzy lpN)
theorem wnp : FDok prog (117, wls) := fn_ok mixed (env_ok (fdC wcb fdN)) tabOK (fnMk wls wuf wajc noZ wug wuh (fun x => wue x.1.1 x.1.2.1) (fun r => ((r, ()), ())) func117 waok fun _ => by kernel_rfl)
theorem waek : FDok prog (65, D_zt) := fn_ok mixed (env_ok (fdC wzx (fdC wnp (fdC wcb fdN)))) tabOK (fnMk D_zt (envOf [(157, D_zu), (117, wls), (104, wcj)]) K_zt noZ [] ((f65.body).getD .skip) (fun x => T_zt x.1.1.1 x.1.1.2.1 x.1.1.2.2.1 x.1.1.2.2.2.1) (fun r => ((r, ()), ())) func65 (lpMk (by kernel_rfl) lpN) fun _ => by kernel_rfl)
theorem wft : FDok prog (146, whs) := hand_clone
theorem wzz : (wet).OK wul tt wuk (orcOf wum) (loopAt wun 0) := ldMk (fun _ => rfl) fun _ _ => by kernel_rfl
theorem waol : LoopsOK wul tt wuk wum wun := lpMk (by kernel_rfl) (lpC wzz lpN)
theorem wael : FDok prog (214, wuj) := fn_ok mixed (env_ok (fdC wft fdN)) tabOK (fnMk wuj wul waje wuk wum wun (fun x => wui x.1.1) (fun r => (((), ()), (r, ()))) func214 waol fun _ => by kernel_rfl)
theorem waem : FDok prog (140, D_zd) := fn_ok mixed (env_ok (fdC wft (fdC wael fdN))) tabOK (fnMk D_zd (envOf [(146, whs), (214, wuj)]) K_zd noZ [] ((f140.body).getD .skip) (fun x => T_zd x.1.1.1 x.1.1.2.1 x.1.1.2.2.1 x.1.1.2.2.2.1) (fun r => ((((), ((), ((), (r.1, ())))), ()), (r.2.1, (r.2.2.1, (r.2.2.2, ()))))) func140 (lpMk (by kernel_rfl) lpN) fun _ => by kernel_rfl)
theorem waen : FDok prog (213, wup) := fn_ok mixed (env_ok (fdN)) tabOK (fnMk wup (envOf []) wajg noZ [] ((f213.body).getD .skip) (fun x => wuo x.1.1) (fun r => ((r.1, (r.2.1, (r.2.2, ()))), ())) func213 (lpMk (by kernel_rfl) lpN) fun _ => by kernel_rfl)
theorem waom : FDok prog (139, D_zi) := fn_ok mixed (env_ok (fdC waen fdN)) tabOK (fnMk D_zi (envOf [(213, wup)]) K_zi noZ [] ((f139.body).getD .skip) (fun x => T_zi x.1.1.1 x.1.1.2.1 x.1.1.2.2.1 x.1.1.2.2.2.1 x.1.1.2.2.2.2.1) (fun r => ((r, ()), ())) func139 (lpMk (by kernel_rfl) lpN) fun _ => by kernel_rfl)
theorem waeo : (whu).OK E_zz tt noZ (orcOf O_zz) (loopAt C_zz 0) := ldMk (fun _ => rfl) fun _ _ => by kernel_rfl
theorem o_zz : LoopsOK E_zz tt noZ O_zz C_zz := lpMk (by kernel_rfl) (lpC waeo lpN)
theorem waaa : FDok prog (141, D_zz) := fn_ok mixed (env_ok (fdN)) tabOK (fnMk D_zz E_zz K_zz noZ O_zz C_zz (fun x => T_zz x.1.1) (fun r => ((r, ()), ())) func141 o_zz fun _ => by kernel_rfl)
theorem waon : FDok prog (142, D_zh) := fn_ok mixed (env_ok (fdC wcb fdN)) tabOK (fnMk D_zh (envOf [(104, wcj)]) K_zh noZ [] ((f142.body).getD .skip) (fun x => T_zh x.1.1 x.1.2.1.1 x.1.2.1.2.1 x.1.2.1.2.2.1 x.1.2.1.2.2.2.1) (fun r => ((r, ()), ())) func142 (lpMk (by kernel_rfl) lpN) fun _ => by kernel_rfl)
theorem wjr : FDok prog (143, whv) := fn_ok mixed (env_ok (fdN)) tabOK (fnMk whv (envOf []) wajp noZ [] ((f143.body).getD .skip) (fun x => wabm x.1.1 x.1.2.1) (fun r => ((r, ()), ())) func143 (lpMk (by kernel_rfl) lpN) fun _ => by kernel_rfl)
theorem waab : (weu).OK wur tt noZ (orcOf wus) (loopAt wut 0) := ldMk (fun _ => rfl) fun _ _ => by kernel_rfl
theorem waoo : LoopsOK wur tt noZ wus wut := lpMk (by kernel_rfl) (lpC waab lpN)
theorem wfu : FDok prog (144, wgc) := fn_ok mixed (env_ok (fdC wjr fdN)) tabOK (fnMk wgc wur wajq noZ wus wut (fun x => wabn x.1.1) (fun r => (((), ()), (r, ()))) func144 waoo fun _ => by kernel_rfl)
theorem wnq : FDok prog (145, wlu) := fn_ok mixed (env_ok (fdC waaa (fdC wfu fdN))) tabOK (fnMk wlu (envOf [(141, D_zz), (144, wgc)]) wajr noZ [] ((f145.body).getD .skip) (fun x => wuu x.1.1 x.1.2.1 x.1.2.2.1) (fun r => (((), ()), (r, ()))) func145 (lpMk (by kernel_rfl) lpN) fun _ => by kernel_rfl)
theorem waep : FDok prog (147, wabo) := hand_delI
theorem waeq : FDok prog (148, wabq) := hand_delR
theorem waop : FDok prog (195, D_zl) := fn_ok mixed (env_ok (fdC wnp fdN)) tabOK (fnMk D_zl (envOf [(117, wls)]) K_zl noZ [] ((f195.body).getD .skip) (fun x => T_zl x.1.1.1 x.1.1.2.1 x.1.2.1) (fun r => ((r, ()), ())) func195 (lpMk (by kernel_rfl) lpN) fun _ => by kernel_rfl)
theorem waer : FDok prog (99, wuw) := fn_ok mixed (env_ok (fdC wzx (fdC waop fdN))) tabOK (fnMk wuw (envOf [(157, D_zu), (195, D_zl)]) wajv noZ [] ((f99.body).getD .skip) (fun x => wuv x.1.1.1 x.1.1.2.1 x.1.2.1) (fun r => ((r, ()), ())) func99 (lpMk (by kernel_rfl) lpN) fun _ => by kernel_rfl)
theorem waes : (whz).OK E_zo tt noZ (orcOf O_zo) (loopAt C_zo 0) := ldMk (fun _ => rfl) fun _ _ => by kernel_rfl
theorem o_zo : LoopsOK E_zo tt noZ O_zo C_zo := lpMk (by kernel_rfl) (lpC waes lpN)
theorem waoq : FDok prog (187, D_zo) := fn_ok mixed (env_ok (fdN)) tabOK (fnMk D_zo E_zo K_zo noZ O_zo C_zo (fun x => T_zo x.1.1.1 x.1.1.2.1 x.1.2.1) (fun r => ((r, ()), ())) func187 o_zo fun _ => by kernel_rfl)
theorem waet : (wia).OK E_zq tt noZ (orcOf O_zq) (loopAt C_zq 0) := ldMk (fun _ => rfl) fun _ _ => by kernel_rfl
theorem o_zq : LoopsOK E_zq tt noZ O_zq C_zq := lpMk (by kernel_rfl) (lpC waet lpN)
theorem waor : FDok prog (274, D_zq) := fn_ok mixed (env_ok (fdN)) tabOK (fnMk D_zq E_zq K_zq noZ O_zq C_zq (fun x => T_zq x.1.1.1 x.1.1.2.1 x.1.2.1 x.1.2.2.1) (fun r => ((r, ()), ())) func274 o_zq fun _ => by kernel_rfl)
theorem waeu : (wib).OK E_zp tt noZ (orcOf O_zp) (loopAt C_zp 0) := ldMk (fun _ => rfl) fun _ _ => by kernel_rfl
theorem o_zp : LoopsOK E_zp tt noZ O_zp C_zp := lpMk (by kernel_rfl) (lpC waeu lpN)
theorem waos : FDok prog (261, D_zp) := fn_ok mixed (env_ok (fdC waor fdN)) tabOK (fnMk D_zp E_zp K_zp noZ O_zp C_zp (fun x => T_zp x.1.1.1 x.1.1.2.1 x.1.2.1) (fun r => (((), ()), (r, ()))) func261 o_zp fun _ => by kernel_rfl)
theorem waev : (wic).OK E_zm tt noZ (orcOf O_zm) (loopAt C_zm 0) := ldMk (fun _ => rfl) fun _ _ => by kernel_rfl
theorem o_zm : LoopsOK E_zm tt noZ O_zm C_zm := lpMk (by kernel_rfl) (lpC waev lpN)
theorem waot : FDok prog (237, D_zm) := fn_ok mixed (env_ok (fdC waos fdN)) tabOK (fnMk D_zm E_zm K_zm noZ O_zm C_zm (fun x => T_zm x.1.1.1 x.1.1.2.1 x.1.2.1) (fun r => (((), ()), (r, ()))) func237 o_zm fun _ => by kernel_rfl)
theorem waac : (wev).OK wuz tt noZ (orcOf wva) (loopAt wvb 0) := ldMk (fun _ => rfl) fun _ _ => by kernel_rfl
theorem waou : LoopsOK wuz tt noZ wva wvb := lpMk (by kernel_rfl) (lpC waac lpN)
theorem waew : FDok prog (236, wuy) := fn_ok mixed (env_ok (fdN)) tabOK (fnMk wuy wuz wakr noZ wva wvb (fun x => wux x.1.1) (fun r => ((r, ()), ())) func236 waou fun _ => by kernel_rfl)
theorem waov : FDok prog (186, D_zr) := fn_ok mixed (env_ok (fdC waot (fdC waew fdN))) tabOK (fnMk D_zr (envOf [(237, D_zm), (236, wuy)]) K_zr noZ [] ((f186.body).getD .skip) (fun x => T_zr x.1.1.1 x.1.1.2.1 x.1.2.1) (fun r => ((r, ()), ())) func186 (lpMk (by kernel_rfl) lpN) fun _ => by kernel_rfl)
theorem waad : FDok prog (174, D_zs) := fn_ok mixed (env_ok (fdC waoq (fdC waov fdN))) tabOK (fnMk D_zs (envOf [(187, D_zo), (186, D_zr)]) K_zs noZ [] ((f174.body).getD .skip) (fun x => T_zs x.1.1.1 x.1.1.2.1 x.1.2.1) (fun r => ((r, ()), ())) func174 (lpMk (by kernel_rfl) lpN) fun _ => by kernel_rfl)
theorem waow : FDok prog (226, D_zk) := fn_ok2 mixed (env_ok (fdC waad fdN)) tabOK (fnMk2 D_zk (envOf [(174, D_zs)]) K_zk wabs noZ [] ((f226.body).getD .skip) (fun x => T_zk x.2.1 x.2.2.1.1 x.2.2.1.2.1 x.2.2.2.1.1) (fun r => match r with | .inl a => .inl ((true, ()), (a.1, ((a.2.1, (a.2.2.1, ())), ((a.2.2.2, ()), (((), ()), ()))))) | .inr b => .inr ((false, ()), (b.1, ((b.2.1, (b.2.2.1, ())), ((b.2.2.2, ()), (((), ()), ())))))) func226 (lpMk (by kernel_rfl) lpN) (fun _ => by kernel_rfl) fun r => by cases r <;> rfl)
theorem waex : (wig).OK E_zn tt noZ (orcOf O_zn) (loopAt C_zn 0) := ldMk (fun _ => rfl) fun _ _ => by kernel_rfl
theorem waey : (wih).OK E_zn tt noZ (orcOf O_zn) (loopAt C_zn 2) := ldMk (fun _ => rfl) fun _ _ => by kernel_rfl
theorem waez : (wii).OK E_zn tt noZ (orcOf O_zn) (loopAt C_zn 6) := ldMk (fun _ => rfl) fun _ _ => by kernel_rfl
theorem wafa : (wij).OK E_zn tt noZ (orcOf O_zn) (loopAt C_zn 4) := ldMk (fun _ => rfl) fun _ _ => by kernel_rfl
theorem o_zn : LoopsOK E_zn tt noZ O_zn C_zn := lpMk (by kernel_rfl) (lpC waex (lpC waey (lpC waez (lpC wafa lpN))))
theorem waox : FDok prog (225, D_zn) := fn_ok2 mixed (env_ok (fdC waaa (fdC wjr (fdC wfu (fdC waow (fdC wnq fdN)))))) tabOK (fnMk2 D_zn E_zn K_zn wabt noZ O_zn C_zn (fun x => T_zn x.1.1.1 x.1.1.2.1 x.1.2.1 x.2.1.1 x.2.1.2.1 x.2.2.1.1) (fun r => match r with | .inl a => .inl ((), ((a.1, (a.2.1, ())), ((a.2.2, ()), (((), ()), ())))) | .inr b => .inr ((), ((b.1, (b.2.1, ())), ((b.2.2.1, ()), (((), ()), (b.2.2.2, ())))))) func225 o_zn (fun _ => by kernel_rfl) fun r => by cases r <;> rfl)
theorem waoy : FDok prog (171, D_zj) := fn_ok mixed (env_ok (fdC waad (fdC waox fdN))) tabOK (fnMk D_zj (envOf [(174, D_zs), (225, D_zn)]) K_zj noZ [] ((f171.body).getD .skip) (fun x => T_zj x.1.1.1 x.1.1.2.1 x.1.2.1) (fun r => (((), (r.1, ())), (r.2, ()))) func171 (lpMk (by kernel_rfl) lpN) fun _ => by kernel_rfl)
theorem wafb : (wik).OK E_zw tt noZ (orcOf O_zw) (loopAt C_zw 0) := ldMk (fun _ => rfl) fun _ _ => by kernel_rfl
theorem o_zw : LoopsOK E_zw tt noZ O_zw C_zw := lpMk (by kernel_rfl) (lpC wafb lpN)
theorem waoz : FDok prog (77, D_zw) := fn_ok mixed (env_ok (fdC waer (fdC wft (fdC waoy fdN)))) tabOK (fnMk D_zw E_zw K_zw noZ O_zw C_zw (fun x => T_zw x.1.1.1 x.1.1.2.1 x.1.2.1) (fun r => (((), (r.1, (r.2.1, ()))), (r.2.2, ()))) func77 o_zw fun _ => by kernel_rfl)
theorem wafc : FDok prog (260, wvc) := fn_ok mixed (env_ok (fdN)) tabOK (fnMk wvc (envOf []) walg noZ [] ((f260.body).getD .skip) (fun x => wabu x.1.1) (fun r => ((r, ()), ())) func260 (lpMk (by kernel_rfl) lpN) fun _ => by kernel_rfl)
theorem wnr : FDok prog (234, wly) := fn_ok mixed (env_ok (fdC wafc fdN)) tabOK (fnMk wly (envOf [(260, wvc)]) walh noZ [] ((f234.body).getD .skip) (fun x => wabw x.1.1) (fun r => ((r, ()), ())) func234 (lpMk (by kernel_rfl) lpN) fun _ => by kernel_rfl)
theorem waae : (wew).OK wlz tt noZ (orcOf wma) (loopAt wmb 2) := ldMk (fun _ => rfl) fun _ _ => by kernel_rfl
theorem waaf : (wex).OK wlz tt noZ (orcOf wma) (loopAt wmb 0) := ldMk (fun _ => rfl) fun _ _ => by kernel_rfl
theorem wapa : LoopsOK wlz tt noZ wma wmb := lpMk (by kernel_rfl) (lpC waae (lpC waaf lpN))
theorem wafd : FDok prog (251, wvg) := fn_ok mixed (env_ok (fdN)) tabOK (fnMk wvg wlz wali noZ wma wmb (fun x => wabx x.1.2.1 x.1.2.2.1 x.1.2.2.2.1 x.2.1) (fun r => ((), (r, ()))) func251 wapa fun _ => by kernel_rfl)
theorem wafe : FDok prog (270, wvh) := fn_ok mixed (env_ok (fdC wnr fdN)) tabOK (fnMk wvh (envOf [(234, wly)]) walj noZ [] ((f270.body).getD .skip) (fun x => wabz x.1.1) (fun r => ((r, ()), ())) func270 (lpMk (by kernel_rfl) lpN) fun _ => by kernel_rfl)
theorem waff : FDok prog (271, wvi) := fn_ok mixed (env_ok (fdN)) tabOK (fnMk wvi (envOf []) walm noZ [] ((f271.body).getD .skip) (fun x => wacb x.2.1.1) (fun r => ((r.1, ()), ((r.2, ()), ()))) func271 (lpMk (by kernel_rfl) lpN) fun _ => by kernel_rfl)
theorem waag : (wey).OK wvl tt noZ (orcOf wvm) (loopAt wvn 0) := ldMk (fun _ => rfl) fun _ _ => by kernel_rfl
theorem wapb : LoopsOK wvl tt noZ wvm wvn := lpMk (by kernel_rfl) (lpC waag lpN)
theorem wafg : FDok prog (253, wvk) := fn_ok mixed (env_ok (fdC wafe (fdC waff fdN))) tabOK (fnMk wvk wvl waln noZ wvm wvn (fun x => wacd x.1.2.1 x.1.2.2.1 x.1.2.2.2.1 x.2.1) (fun r => ((), (r, ()))) func253 wapb fun _ => by kernel_rfl)
theorem wafh : FDok prog (286, wvo) := fn_ok mixed (env_ok (fdN)) tabOK (fnMk wvo (envOf []) walo noZ [] ((f286.body).getD .skip) (fun x => wacf x.1.1 x.1.2.1 x.1.2.2.1 x.1.2.2.2.2.1 x.2.1.1) (fun r => ((r.1, (r.2.1, ())), ((r.2.2, ()), ()))) func286 (lpMk (by kernel_rfl) lpN) fun _ => by kernel_rfl)
theorem wns : FDok prog (273, wme) := fn_ok mixed (env_ok (fdC wafh fdN)) tabOK (fnMk wme (envOf [(286, wvo)]) walp noZ [] ((f273.body).getD .skip) (fun x => wacg x.1.1 x.1.2.1 x.1.2.2.1 x.1.2.2.2.1 x.1.2.2.2.2.2.1 x.2.1.1) (fun r => ((r.1, ()), ((r.2, ()), ()))) func273 (lpMk (by kernel_rfl) lpN) fun _ => by kernel_rfl)
theorem wafi : FDok prog (272, wvp) := fn_ok mixed (env_ok (fdC wns fdN)) tabOK (fnMk wvp (envOf [(273, wme)]) walq noZ [] ((f272.body).getD .skip) (fun x => wach x.1.1 x.1.2.1 x.1.2.2.2.1 x.2.1.1) (fun r => ((r.1, ()), ((r.2, ()), ()))) func272 (lpMk (by kernel_rfl) lpN) fun _ => by kernel_rfl)
theorem wafj : FDok prog (254, wvr) := fn_ok mixed (env_ok (fdC wafi (fdC wns fdN))) tabOK (fnMk wvr (envOf [(272, wvp), (273, wme)]) walr noZ [] ((f254.body).getD .skip) (fun x => waci x.1.1 x.1.2.1 x.1.2.2.1 x.1.2.2.2.1) (fun r => ((r.1, (r.2, ())), ())) func254 (lpMk (by kernel_rfl) lpN) fun _ => by kernel_rfl)
theorem waah : (wez).OK wdg tt noZ (orcOf wdh) (loopAt wdi 0) := ldMk (fun _ => rfl) fun _ _ => by kernel_rfl
theorem waai : (wfa).OK wdg tt noZ (orcOf wdh) (loopAt wdi 2) := ldMk (fun _ => rfl) fun _ _ => by kernel_rfl
theorem waaj : (wfb).OK wdg tt noZ (orcOf wdh) (loopAt wdi 6) := ldMk (fun _ => rfl) fun _ _ => by kernel_rfl
theorem waak : (wfc).OK wdg tt noZ (orcOf wdh) (loopAt wdi 8) := ldMk (fun _ => rfl) fun _ _ => by kernel_rfl
theorem waal : (wfd).OK wdg tt noZ (orcOf wdh) (loopAt wdi 4) := ldMk (fun _ => rfl) fun _ _ => by kernel_rfl
theorem wapc : LoopsOK wdg tt noZ wdh wdi := lpMk (by kernel_rfl) (lpC waah (lpC waai (lpC waaj (lpC waak (lpC waal lpN)))))
theorem wafk : FDok prog (258, wvx) := fn_ok mixed (env_ok (fdN)) tabOK (fnMk wvx wdg wals noZ wdh wdi (fun x => wacj x.1.2.1 x.1.2.2.1 x.1.2.2.2.1 x.1.2.2.2.2.1 x.2.1) (fun r => ((r.1, (r.2.1, ())), (r.2.2, ()))) func258 wapc fun _ => by kernel_rfl)
theorem waam (rec_ : (Int) → (Int) → (Int) → (Yf) → Yc → Option Yc) : (wfe rec_).OK (wwa rec_) tt noZ (orcOf (wwb rec_)) (loopAt wwc 0) := ldMk (fun _ => rfl) fun _ _ => by kernel_rfl
theorem wapd (rec_ : (Int) → (Int) → (Int) → (Yf) → Yc → Option Yc) : LoopsOK (wwa rec_) tt noZ (wwb rec_) wwc := lpMk (by kernel_rfl) (lpC (waam rec_) lpN)
theorem wnt : ∀ n : Nat, FDok prog (233, wvz n)
 | 0 => fun _ _ h => nomatch h
 | n + 1 => fn_ok mixed (env_ok (fdC wafd (fdC wafg (fdC wafj (fdC wafk (fdC (wnt n) fdN)))))) tabOK (fnMk (wvz (n + 1)) (wwa (wdj n)) walt noZ (wwb (wdj n)) wwc (fun x => wack (wdj n) x.1.2.1 x.1.2.2.1 x.1.2.2.2.1 x.1.2.2.2.2.1 x.2.1) (fun r => ((), (r, ()))) func233 (wapd (wdj n)) fun _ => by kernel_rfl)
theorem wnu : FDok prog (184, wmg) := fn_ok mixed (env_ok (fdC wnr (fdC (wnt 1000000) fdN))) tabOK (fnMk wmg (envOf [(234, wly), (233, wvz 1000000)]) walu noZ [] ((f184.body).getD .skip) (fun x => wacl x.1.2.1 x.2.1) (fun r => ((), (r, ()))) func184 (lpMk (by kernel_rfl) lpN) fun _ => by kernel_rfl)
theorem wape : FDok prog (231, D_zc) := fn_ok mixed (env_ok (fdN)) tabOK (fnMk D_zc (envOf []) K_zc noZ [] ((f231.body).getD .skip) (fun x => T_zc x.1.1) (fun r => ((r, ()), ())) func231 (lpMk (by kernel_rfl) lpN) fun _ => by kernel_rfl)
theorem wafl : FDok prog (182, D_za) := fn_ok mixed (env_ok (fdC wape fdN)) tabOK (fnMk D_za (envOf [(231, D_zc)]) K_za noZ [] ((f182.body).getD .skip) (fun x => T_za x.1.1 x.1.2.1) (fun r => ((r, ()), ())) func182 (lpMk (by kernel_rfl) lpN) fun _ => by kernel_rfl)
theorem waan : (wff).OK wwg tt noZ (orcOf wwh) (loopAt wwi 0) := ldMk (fun _ => rfl) fun _ _ => by kernel_rfl
theorem wapf : LoopsOK wwg tt noZ wwh wwi := lpMk (by kernel_rfl) (lpC waan lpN)
theorem wafm : FDok prog (235, wwf) := fn_ok mixed (env_ok (fdC wafl fdN)) tabOK (fnMk wwf wwg waly noZ wwh wwi (fun x => wacn x.1.1 x.1.2.1) (fun r => ((r, ()), ())) func235 wapf fun _ => by kernel_rfl)
theorem wafn : (wix).OK E_zb tt noZ (orcOf O_zb) (loopAt C_zb 0) := ldMk (fun _ => rfl) fun _ _ => by kernel_rfl
theorem o_zb : LoopsOK E_zb tt noZ O_zb C_zb := lpMk (by kernel_rfl) (lpC wafn lpN)
theorem wapg : FDok prog (181, D_zb) := fn_ok mixed (env_ok (fdN)) tabOK (fnMk D_zb E_zb K_zb noZ O_zb C_zb (fun x => T_zb x.1.1) (fun r => ((r, ()), ())) func181 o_zb fun _ => by kernel_rfl)
theorem wafo : FDok prog (185, wwj) := fn_ok mixed (env_ok (fdC wafl (fdC wafm (fdC wapg fdN)))) tabOK (fnMk wwj (envOf [(182, D_za), (235, wwf), (181, D_zb)]) wamd noZ [] ((f185.body).getD .skip) (fun x => wacq x.1.1 x.1.2.1) (fun r => ((r, ()), ())) func185 (lpMk (by kernel_rfl) lpN) fun _ => by kernel_rfl)
theorem waao : (wfg).OK wwn tt wwm (orcOf wwo) (loopAt wwp 0) := ldMk (fun _ => rfl) fun _ _ => by kernel_rfl
theorem waph : LoopsOK wwn tt wwm wwo wwp := lpMk (by kernel_rfl) (lpC waao lpN)
theorem wafp : FDok prog (91, wwl) := fn_ok mixed (env_ok (fdC wfu (fdC wnu (fdC wnu (fdC wafo fdN))))) tabOK (fnMk wwl wwn wame wwm wwo wwp (fun x => wacs x.1.1) (fun r => (((), ()), (r, ()))) func91 waph fun _ => by kernel_rfl)
theorem waap : (wfh).OK wwr tt noZ (orcOf wws) (loopAt wwt 0) := ldMk (fun _ => rfl) fun _ _ => by kernel_rfl
theorem wapi : LoopsOK wwr tt noZ wws wwt := lpMk (by kernel_rfl) (lpC waap lpN)
theorem wnv : FDok prog (94, wmi) := fn_ok mixed (env_ok (fdN)) tabOK (fnMk wmi wwr wamf noZ wws wwt (fun x => wwq x.1.2.1 x.2.1) (fun r => (((), ()), (r, ()))) func94 wapi fun _ => by kernel_rfl)
theorem wapj : FDok prog (149, D_ze) := fn_ok mixed (env_ok (fdC wzx (fdC wafp (fdC wnv (fdC wnv (fdC waad fdN)))))) tabOK (fnMk D_ze (envOf [(157, D_zu), (91, wwl), (94, wmi), (94, wmi), (174, D_zs)]) K_ze noZ [] ((f149.body).getD .skip) (fun x => T_ze x.1.1.1 x.1.1.2.1) (fun r => (((), (r.1, ())), (r.2, ()))) func149 (lpMk (by kernel_rfl) lpN) fun _ => by kernel_rfl)
theorem l_zh : (wacu).OK E_zg tt Z_zg (orcOf O_zg) (loopAt C_zg 1) := ldMk (fun _ => rfl) fun _ _ => by kernel_rfl
theorem wafq : (wjb).OK E_zg tt Z_zg (orcOf O_zg) (loopAt C_zg 3) := ldMk (fun _ => rfl) fun _ _ => by kernel_rfl
theorem wafr : (wjc).OK E_zg tt Z_zg (orcOf O_zg) (loopAt C_zg 5) := ldMk (fun _ => rfl) fun _ _ => by kernel_rfl
theorem o_zg : LoopsOK E_zg tt Z_zg O_zg C_zg := lpMk (by kernel_rfl) (lpC l_zh (lpC wafq (lpC wafr lpN)))
theorem wapk : FDok prog (45, D_zg) := fn_ok mixed (env_ok (fdC waek (fdC waom (fdC waem (fdC waaa (fdC wcb (fdC waon (fdC wjr (fdC wfu (fdC wnq (fdC wft (fdC waep (fdC waeq (fdC waoz (fdC wapj fdN))))))))))))))) tabOK (fnMk D_zg E_zg K_zg Z_zg O_zg C_zg (fun x => T_zg x.1.1.1 x.1.1.2.1 x.1.1.2.2.1 x.1.1.2.2.2.1 x.1.2.1.1 x.1.2.1.2.1 x.1.2.1.2.2.1 x.1.2.1.2.2.2.1 x.1.2.1.2.2.2.2.1) (fun r => ((((), ((), ((), (r.1, ())))), (r.2.1, ())), (r.2.2.1, (r.2.2.2.1, (r.2.2.2.2, ()))))) func45 o_zg fun _ => by kernel_rfl)
theorem wafs : (wjd).OK E_zf tt noZ (orcOf O_zf) (loopAt C_zf 0) := ldMk (fun _ => rfl) fun _ _ => by kernel_rfl
theorem o_zf : LoopsOK E_zf tt noZ O_zf C_zf := lpMk (by kernel_rfl) (lpC wafs lpN)
theorem wapl : FDok prog (54, D_zf) := fn_ok mixed (env_ok (fdC waek (fdC waem (fdC wapk fdN)))) tabOK (fnMk D_zf E_zf K_zf noZ O_zf C_zf (fun x => T_zf x.1.1.1 x.1.1.2.1 x.1.1.2.2.1 x.1.1.2.2.2.1 x.1.2.1) (fun r => ((((), ((), ((), (r.1, ())))), (r.2.1, (r.2.2.1, ()))), (r.2.2.2.1, (r.2.2.2.2.1, (r.2.2.2.2.2, ()))))) func54 o_zf fun _ => by kernel_rfl)
theorem waaq : (wfi).OK wwv tt noZ (orcOf www) (loopAt wwx 0) := ldMk (fun _ => rfl) fun _ _ => by kernel_rfl
theorem wapm : LoopsOK wwv tt noZ www wwx := lpMk (by kernel_rfl) (lpC waaq lpN)
theorem wfv : FDok prog (151, wgd) := fn_ok mixed (env_ok (fdN)) tabOK (fnMk wgd wwv wamq noZ www wwx (fun x => wwu x.1.1 x.1.2.1) (fun r => ((r, ()), ())) func151 wapm fun _ => by kernel_rfl)
theorem waar : (wfj).OK wxa tt noZ (orcOf wxb) (loopAt wxc 0) := ldMk (fun _ => rfl) fun _ _ => by kernel_rfl
theorem wapn : LoopsOK wxa tt noZ wxb wxc := lpMk (by kernel_rfl) (lpC waar lpN)
theorem waft : FDok prog (215, wwz) := fn_ok mixed (env_ok (fdC wfv fdN)) tabOK (fnMk wwz wxa wamr noZ wxb wxc (fun x => wwy x.1.1 x.1.2.1) (fun r => ((r, ()), ())) func215 wapn fun _ => by kernel_rfl)
theorem wafu : FDok prog (150, wxe) := fn_ok mixed (env_ok (fdC wfv (fdC waft fdN))) tabOK (fnMk wxe (envOf [(151, wgd), (215, wwz)]) wams noZ [] ((f150.body).getD .skip) (fun x => wxd x.1.1.1 x.1.1.2.1 x.1.2.1.1 x.1.2.1.2.1) (fun r => ((r, ()), ())) func150 (lpMk (by kernel_rfl) lpN) fun _ => by kernel_rfl)
theorem wafv : FDok prog (46, wxg) := fn_ok mixed (env_ok (fdC wafu (fdC wfv fdN))) tabOK (fnMk wxg (envOf [(150, wxe), (151, wgd)]) wamt noZ [] ((f46.body).getD .skip) (fun x => wxf x.1.1.1 x.1.1.2.1 x.1.1.2.2.1 x.1.1.2.2.2.1 x.1.2.1.1 x.1.2.1.2.1 x.1.2.1.2.2.1 x.1.2.1.2.2.2.1) (fun r => ((r, ()), ())) func46 (lpMk (by kernel_rfl) lpN) fun _ => by kernel_rfl)
theorem wafw : FDok prog (47, wxi) := fn_ok mixed (env_ok (fdC wfv fdN)) tabOK (fnMk wxi (envOf [(151, wgd)]) wamu noZ [] ((f47.body).getD .skip) (fun x => wxh x.1.1.1 x.1.1.2.1 x.1.1.2.2.1 x.1.1.2.2.2.1 x.1.1.2.2.2.2.1 x.1.2.1.1 x.1.2.1.2.1 x.1.2.1.2.2.1 x.1.2.1.2.2.2.1 x.1.2.1.2.2.2.2.1) (fun r => ((r, ()), ())) func47 (lpMk (by kernel_rfl) lpN) fun _ => by kernel_rfl)
theorem waas : (wfk).OK wxl tt noZ (orcOf wxm) (loopAt wxn 0) := ldMk (fun _ => rfl) fun _ _ => by kernel_rfl
theorem wapo : LoopsOK wxl tt noZ wxm wxn := lpMk (by kernel_rfl) (lpC waas lpN)
theorem wafx : FDok prog (55, wxk) := fn_ok mixed (env_ok (fdC wafw fdN)) tabOK (fnMk wxk wxl wamv noZ wxm wxn (fun x => wxj x.1.1 x.1.2.1) (fun r => ((r, ()), ())) func55 wapo fun _ => by kernel_rfl)
theorem waat : (wfl).OK wxp tt noZ (orcOf wxq) (loopAt wxr 0) := ldMk (fun _ => rfl) fun _ _ => by kernel_rfl
theorem wapp : LoopsOK wxp tt noZ wxq wxr := lpMk (by kernel_rfl) (lpC waat lpN)
theorem wjs : FDok prog (153, wji) := fn_ok mixed (env_ok (fdN)) tabOK (fnMk wji wxp wamw noZ wxq wxr (fun x => wxo x.1.2.1 x.2.1) (fun r => ((r.1, ()), (r.2, ()))) func153 wapp fun _ => by kernel_rfl)
theorem waau : (wfm).OK wxv tt wxu (orcOf wxw) (loopAt wxx 0) := ldMk (fun _ => rfl) fun _ _ => by kernel_rfl
theorem wapq : LoopsOK wxv tt wxu wxw wxx := lpMk (by kernel_rfl) (lpC waau lpN)
theorem wafy : FDok prog (216, wxt) := fn_ok mixed (env_ok (fdC wjs fdN)) tabOK (fnMk wxt wxv wamx wxu wxw wxx (fun x => wxs x.1.2.1 x.2.1) (fun r => ((r.1, ()), (r.2, ()))) func216 wapq fun _ => by kernel_rfl)
theorem wafz : FDok prog (152, wxz) := fn_ok mixed (env_ok (fdC wjs (fdC wafy fdN))) tabOK (fnMk wxz (envOf [(153, wji), (216, wxt)]) wamy noZ [] ((f152.body).getD .skip) (fun x => wxy x.1.2.1 x.2.1 x.2.2.1) (fun r => ((r.1, ()), (r.2.1, (r.2.2, ())))) func152 (lpMk (by kernel_rfl) lpN) fun _ => by kernel_rfl)
theorem waga : FDok prog (48, wyb) := fn_ok mixed (env_ok (fdC wafz (fdC wjs fdN))) tabOK (fnMk wyb (envOf [(152, wxz), (153, wji)]) wamz noZ [] ((f48.body).getD .skip) (fun x => wya x.1.1.2.2.2.1 x.1.2.1 x.2.1 x.2.2.1 x.2.2.2.1) (fun r => ((r.1, ()), (r.2.1, (r.2.2.1, (r.2.2.2, ()))))) func48 (lpMk (by kernel_rfl) lpN) fun _ => by kernel_rfl)
theorem wagb : FDok prog (56, wada) := hand_markES
theorem waav : (wfn).OK wye tt noZ (orcOf wyf) (loopAt wyg 0) := ldMk (fun _ => rfl) fun _ _ => by kernel_rfl
theorem wapr : LoopsOK wye tt noZ wyf wyg := lpMk (by kernel_rfl) (lpC waav lpN)
theorem wjt : FDok prog (155, wjm) := fn_ok mixed (env_ok (fdN)) tabOK (fnMk wjm wye wana noZ wyf wyg (fun x => wyd x.1.1 x.1.2.1) (fun r => ((r, ()), ())) func155 wapr fun _ => by kernel_rfl)
theorem waaw : (wfo).OK wyj tt noZ (orcOf wyk) (loopAt wyl 0) := ldMk (fun _ => rfl) fun _ _ => by kernel_rfl
theorem waps : LoopsOK wyj tt noZ wyk wyl := lpMk (by kernel_rfl) (lpC waaw lpN)
theorem wagc : FDok prog (217, wyi) := fn_ok mixed (env_ok (fdC wjt fdN)) tabOK (fnMk wyi wyj wanb noZ wyk wyl (fun x => wyh x.1.1 x.1.2.1) (fun r => ((r, ()), ())) func217 waps fun _ => by kernel_rfl)
theorem wagd : FDok prog (154, wyn) := fn_ok mixed (env_ok (fdC wjt (fdC wagc fdN))) tabOK (fnMk wyn (envOf [(155, wjm), (217, wyi)]) wanc noZ [] ((f154.body).getD .skip) (fun x => wym x.1.1.1 x.1.1.2.1 x.1.2.1) (fun r => ((r, ()), ())) func154 (lpMk (by kernel_rfl) lpN) fun _ => by kernel_rfl)
theorem wage : FDok prog (50, wyp) := fn_ok mixed (env_ok (fdC wagd (fdC wjt fdN))) tabOK (fnMk wyp (envOf [(154, wyn), (155, wjm)]) wand noZ [] ((f50.body).getD .skip) (fun x => wyo x.1.1.1 x.1.1.2.1 x.1.1.2.2.1 x.1.1.2.2.2.1 x.1.2.1) (fun r => ((r, ()), ())) func50 (lpMk (by kernel_rfl) lpN) fun _ => by kernel_rfl)
theorem wagf : FDok prog (6, wys) := fn_ok mixed (env_ok (fdC wadd (fdC wadf (fdC wadi (fdC wadk (fdC waeg (fdC wapl (fdC wafv (fdC wafx (fdC waga (fdC wagb (fdC wage fdN)))))))))))) tabOK (fnMk wys (envOf [(40, wof), (51, woj), (43, wpa), (53, wpe), (52, wtm), (54, D_zf), (46, wxg), (55, wxk), (48, wyb), (56, wada), (50, wyp)]) wane wanf [] ((f6.body).getD .skip) (fun x => wyq x.1.1.1 x.1.1.2.1 x.1.1.2.2.1 x.1.1.2.2.2.1 x.1.2.1) (fun r => ((r, ()), ())) func6 (lpMk (by kernel_rfl) lpN) fun _ => by kernel_rfl)
end Go.Proofs.YtnagpmhaddfgmaaGreat
