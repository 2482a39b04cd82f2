import Derived.Test.YtnagpmhaddfgmaaGreatC1
namespace Go.Proofs.YtnagpmhaddfgmaaGreat
open Go.Proofs.Tryz
open List (length getD set)
open Int (toNat)
open IntKind (wrap)
theorem mixed : prog.follows .mixedOrders = true := by kernel_rfl
theorem tabOK : TabOK prog tt := tab_ok (by kernel_rfl)
theorem wafx : FDok prog (57, wrc) := fn_ok mixed (env_ok (fdN)) tabOK (fnMk wrc (envOf []) wajk noZ [] ((f57.body).getD .skip) (fun x => wra x.1.1) (fun r => ((r, ()), ())) func57 (lpMk (by kernel_rfl) lpN) fun _ => by kernel_rfl)
theorem wafy : FDok prog (202, wre) := fn_ok mixed (env_ok (fdN)) tabOK (fnMk wre (envOf []) wajl noZ [] ((f202.body).getD .skip) (fun x => wrd x.2.1.1 x.2.1.2.1 x.2.1.2.2.1) (fun r => ((r.1, ()), ((r.2.1, (r.2.2.1, (r.2.2.2, ()))), ()))) func202 (lpMk (by kernel_rfl) lpN) fun _ => by kernel_rfl)
theorem wac : FDok prog (120, wbh) := fn_ok mixed (env_ok (fdC wafy fdN)) tabOK (fnMk wbh (envOf [(202, wre)]) wajm noZ [] ((f120.body).getD .skip) (fun x => wrf x.1.2.1 x.2.1.1 x.2.1.2.1 x.2.1.2.2.1) (fun r => ((r.1, ()), ((r.2.1, (r.2.2.1, (r.2.2.2, ()))), ()))) func120 (lpMk (by kernel_rfl) lpN) fun _ => by kernel_rfl)
theorem wec : FDok prog (83, wed) := fn_ok mixed (env_ok (fdC wac fdN)) tabOK (fnMk wed (envOf [(120, wbh)]) wajn noZ [] ((f83.body).getD .skip) (fun x => wrg x.1.2.1 x.2.1.1 x.2.1.2.1 x.2.1.2.2.1) (fun r => ((r.1, ()), ((r.2.1, (r.2.2.1, (r.2.2.2, ()))), ()))) func83 (lpMk (by kernel_rfl) lpN) fun _ => by kernel_rfl)
theorem wabm : (wes).OK wil tt wik (orcOf wim) (loopAt wio 0) := ldMk (fun _ => rfl) fun _ _ => by kernel_rfl
theorem wabn : (wet).OK wil tt wik (orcOf wim) (loopAt wio 4) := ldMk (fun _ => rfl) fun _ _ => by kernel_rfl
theorem wabo : (weu).OK wil tt wik (orcOf wim) (loopAt wio 2) := ldMk (fun _ => rfl) fun _ _ => by kernel_rfl
theorem wapy : LoopsOK wil tt wik wim wio := lpMk (by kernel_rfl) (lpC wabm (lpC wabn (lpC wabo lpN)))
theorem wqc : FDok prog (176, wmo) := fn_ok mixed (env_ok (fdC wec (fdC wac fdN))) tabOK (fnMk wmo wil wajo wik wim wio (fun x => wrh x.1.2.1 x.2.1.1 x.2.1.2.1 x.2.1.2.2.1) (fun r => ((((), ((), ())), ()), (r.1, (r.2.1, ((r.2.2.1, (r.2.2.2.1, (r.2.2.2.2, ()))), ()))))) func176 wapy fun _ => by kernel_rfl)
theorem wcv : FDok prog (173, wdi) := fn_ok mixed (env_ok (fdN)) tabOK (fnMk wdi (envOf []) wajp noZ [] ((f173.body).getD .skip) (fun x => wmp x.1.1) (fun r => (((), ()), (r, ()))) func173 (lpMk (by kernel_rfl) lpN) fun _ => by kernel_rfl)
theorem wabp : (wev).OK wrl tt wrk (orcOf wrm) (loopAt wrn 1) := ldMk (fun _ => rfl) fun _ _ => by kernel_rfl
theorem wapz : LoopsOK wrl tt wrk wrm wrn := lpMk (by kernel_rfl) (lpC wabp lpN)
theorem wafz : FDok prog (175, wrj) := fn_ok mixed (env_ok (fdC wac (fdC wec (fdC wcv fdN)))) tabOK (fnMk wrj wrl wajq wrk wrm wrn (fun x => wri x.2.1.1 x.2.1.2.1 x.2.1.2.2.1 x.2.2.1 x.2.2.2.1) (fun r => ((((), ((), ())), ()), (r.1, (r.2.1, ((r.2.2.1, (r.2.2.2.1, (r.2.2.2.2, ()))), ()))))) func175 wapz fun _ => by kernel_rfl)
theorem wqd : FDok prog (197, wmq) := fn_ok mixed (env_ok (fdN)) tabOK (fnMk wmq (envOf []) wajr noZ [] ((f197.body).getD .skip) (fun x => wro x.1.1 x.1.2.1) (fun r => ((r, ()), ())) func197 (lpMk (by kernel_rfl) lpN) fun _ => by kernel_rfl)
theorem wabq : (wew).OK wiu tt noZ (orcOf wiv) (loopAt wiw 0) := ldMk (fun _ => rfl) fun _ _ => by kernel_rfl
theorem wabr : (wex).OK wiu tt noZ (orcOf wiv) (loopAt wiw 4) := ldMk (fun _ => rfl) fun _ _ => by kernel_rfl
theorem wabs : (wey).OK wiu tt noZ (orcOf wiv) (loopAt wiw 2) := ldMk (fun _ => rfl) fun _ _ => by kernel_rfl
theorem waqa : LoopsOK wiu tt noZ wiv wiw := lpMk (by kernel_rfl) (lpC wabq (lpC wabr (lpC wabs lpN)))
theorem waga : FDok prog (177, wrq) := fn_ok mixed (env_ok (fdC wqc (fdC wac (fdC wqd fdN)))) tabOK (fnMk wrq wiu wajs noZ wiv wiw (fun x => wrp x.1.2.1 x.2.1.1 x.2.1.2.1 x.2.1.2.2.1) (fun r => ((((), ((), ())), ()), (r.1, (r.2.1, ((r.2.2.1, (r.2.2.2.1, (r.2.2.2.2, ()))), ()))))) func177 waqa fun _ => by kernel_rfl)
theorem wabt : (wez).OK wrt tt noZ (orcOf wru) (loopAt wrv 0) := ldMk (fun _ => rfl) fun _ _ => by kernel_rfl
theorem waqb : LoopsOK wrt tt noZ wru wrv := lpMk (by kernel_rfl) (lpC wabt lpN)
theorem wagb : FDok prog (228, wrs) := fn_ok mixed (env_ok (fdC wcv fdN)) tabOK (fnMk wrs wrt wajt noZ wru wrv (fun x => wrr x.1.1.1 x.1.1.2.1) (fun r => ((((), ((), ())), ()), (r.1, (r.2, ())))) func228 waqb fun _ => by kernel_rfl)
theorem wabu : (wfa).OK whn tt noZ (orcOf whp) (loopAt whq 6) := ldMk (fun _ => rfl) fun _ _ => by kernel_rfl
theorem wabv : (wfb).OK whn tt noZ (orcOf whp) (loopAt whq 4) := ldMk (fun _ => rfl) fun _ _ => by kernel_rfl
theorem wabw : (wfc).OK whn tt noZ (orcOf whp) (loopAt whq 2) := ldMk (fun _ => rfl) fun _ _ => by kernel_rfl
theorem wabx : (wfd).OK whn tt noZ (orcOf whp) (loopAt whq 0) := ldMk (fun _ => rfl) fun _ _ => by kernel_rfl
theorem waqc : LoopsOK whn tt noZ whp whq := lpMk (by kernel_rfl) (lpC wabu (lpC wabv (lpC wabw (lpC wabx lpN))))
theorem wagc : FDok prog (229, wrx) := fn_ok mixed (env_ok (fdN)) tabOK (fnMk wrx whn waju noZ whp whq (fun x => wrw x.1.1.1 x.1.1.2.1) (fun r => ((r, ()), ())) func229 waqc fun _ => by kernel_rfl)
theorem wqe : FDok prog (194, wmu) := fn_ok mixed (env_ok (fdN)) tabOK (fnMk wmu (envOf []) wajv noZ [] ((f194.body).getD .skip) (fun x => wry x.1.1 x.1.2.1) (fun r => ((r, ()), ())) func194 (lpMk (by kernel_rfl) lpN) fun _ => by kernel_rfl)
theorem waby : (wfe).OK wee tt noZ (orcOf wef) (loopAt weg 8) := ldMk (fun _ => rfl) fun _ _ => by kernel_rfl
theorem wabz : (wff).OK wee tt noZ (orcOf wef) (loopAt weg 6) := ldMk (fun _ => rfl) fun _ _ => by kernel_rfl
theorem waca : (wfg).OK wee tt noZ (orcOf wef) (loopAt weg 4) := ldMk (fun _ => rfl) fun _ _ => by kernel_rfl
theorem wacb : (wfh).OK wee tt noZ (orcOf wef) (loopAt weg 2) := ldMk (fun _ => rfl) fun _ _ => by kernel_rfl
theorem wacc : (wfi).OK wee tt noZ (orcOf wef) (loopAt weg 0) := ldMk (fun _ => rfl) fun _ _ => by kernel_rfl
theorem waqd : LoopsOK wee tt noZ wef weg := lpMk (by kernel_rfl) (lpC waby (lpC wabz (lpC waca (lpC wacb (lpC wacc lpN)))))
theorem wagd : FDok prog (178, wsa) := fn_ok mixed (env_ok (fdC wagb (fdC wagc (fdC wqe fdN)))) tabOK (fnMk wsa wee wajw noZ wef weg (fun x => wrz x.1.1.1 x.1.1.2.1) (fun r => ((((), ((), ())), ()), (r.1, (r.2, ())))) func178 waqd fun _ => by kernel_rfl)
theorem wqf : FDok prog (82, wmw) := fn_ok mixed (env_ok (fdC wac (fdC wqc (fdC wafz (fdC waga (fdC wagd fdN)))))) tabOK (fnMk wmw (envOf [(120, wbh), (176, wmo), (175, wrj), (177, wrq), (178, wsa)]) wajx noZ [] ((f82.body).getD .skip) (fun x => wsb x.1.2.1 x.2.1.1 x.2.1.2.1 x.2.1.2.2.1) (fun r => ((((), ((), ())), ()), (r.1, (r.2.1, ((r.2.2.1, (r.2.2.2.1, (r.2.2.2.2, ()))), ()))))) func82 (lpMk (by kernel_rfl) lpN) fun _ => by kernel_rfl)
theorem wage : FDok prog (89, wsd) := fn_ok mixed (env_ok (fdC wqf fdN)) tabOK (fnMk wsd (envOf [(82, wmw)]) wajy noZ [] ((f89.body).getD .skip) (fun x => wsc x.2.1.1 x.2.1.2.1 x.2.1.2.2.1) (fun r => ((((), ((), ())), ()), (r.1, (r.2.1, ((r.2.2.1, (r.2.2.2.1, (r.2.2.2.2, ()))), ()))))) func89 (lpMk (by kernel_rfl) lpN) fun _ => by kernel_rfl)
theorem wagf : FDok prog (58, wsg) := fn_ok mixed (env_ok (fdC wage fdN)) tabOK (fnMk wsg (envOf [(89, wsd)]) wajz noZ [] ((f58.body).getD .skip) (fun x => wsf x.1.1) (fun r => ((((), ((), ())), ()), (r.1, (r.2, ())))) func58 (lpMk (by kernel_rfl) lpN) fun _ => by kernel_rfl)
theorem wcw : FDok prog (104, wdj) := fn_ok mixed (env_ok (fdN)) tabOK (fnMk wdj (envOf []) waka noZ [] ((f104.body).getD .skip) (fun x => wsh x.1.1 x.1.2.1 x.1.2.2.1) (fun r => ((r, ()), ())) func104 (lpMk (by kernel_rfl) lpN) fun _ => by kernel_rfl)
theorem wacd : (wfj).OK wsk tt noZ (orcOf wsl) (loopAt wsm 0) := ldMk (fun _ => rfl) fun _ _ => by kernel_rfl
theorem waqe : LoopsOK wsk tt noZ wsl wsm := lpMk (by kernel_rfl) (lpC wacd lpN)
theorem wagg : FDok prog (206, wsj) := fn_ok mixed (env_ok (fdN)) tabOK (fnMk wsj wsk wakb noZ wsl wsm (fun x => wsi x.1.1 x.1.2.1) (fun r => ((r, ()), ())) func206 waqe fun _ => by kernel_rfl)
theorem wqg : FDok prog (126, wnb) := fn_ok mixed (env_ok (fdC wagg fdN)) tabOK (fnMk wnb (envOf [(206, wsj)]) wakc noZ [] ((f126.body).getD .skip) (fun x => wsn x.1.1 x.1.2.1) (fun r => ((r, ()), ())) func126 (lpMk (by kernel_rfl) lpN) fun _ => by kernel_rfl)
theorem wagh : FDok prog (201, wsq) := fn_ok mixed (env_ok (fdC wcw fdN)) tabOK (fnMk wsq (envOf [(104, wdj)]) wakd noZ [] ((f201.body).getD .skip) (fun x => wso x.1.1 x.1.2.1.1 x.1.2.2.1.1) (fun r => ((r, ()), ())) func201 (lpMk (by kernel_rfl) lpN) fun _ => by kernel_rfl)
theorem wqh : FDok prog (116, wnc) := fn_ok mixed (env_ok (fdC wqg (fdC wqg (fdC wagh fdN)))) tabOK (fnMk wnc (envOf [(126, wnb), (126, wnb), (201, wsq)]) wakf noZ [] ((f116.body).getD .skip) (fun x => wsr x.1.1 x.1.2.1 x.1.2.2.1) (fun r => ((r, ()), ())) func116 (lpMk (by kernel_rfl) lpN) fun _ => by kernel_rfl)
theorem wace : (wfk).OK wsv tt noZ (orcOf wsw) (loopAt wsx 0) := ldMk (fun _ => rfl) fun _ _ => by kernel_rfl
theorem waqf : LoopsOK wsv tt noZ wsw wsx := lpMk (by kernel_rfl) (lpC wace lpN)
theorem wagi : FDok prog (131, wsu) := fn_ok mixed (env_ok (fdN)) tabOK (fnMk wsu wsv wakg noZ wsw wsx (fun x => wss x.1.1 x.1.2.1) (fun r => ((r, ()), ())) func131 waqf fun _ => by kernel_rfl)
theorem wqi : FDok prog (218, wnf) := fn_ok mixed (env_ok (fdC wagi fdN)) tabOK (fnMk wnf (envOf [(131, wsu)]) wakh noZ [] ((f218.body).getD .skip) (fun x => wsy x.1.1 x.1.2.1) (fun r => ((r, ()), ())) func218 (lpMk (by kernel_rfl) lpN) fun _ => by kernel_rfl)
theorem waqg : FDok prog (219, D_zw) := fn_ok mixed (env_ok (fdC wqh fdN)) tabOK (fnMk D_zw (envOf [(116, wnc)]) K_zw noZ [] ((f219.body).getD .skip) (fun x => T_zw x.1.1 x.1.2.1.1 x.1.2.1.2.1) (fun r => ((r, ()), ())) func219 (lpMk (by kernel_rfl) lpN) fun _ => by kernel_rfl)
theorem wpn : FDok prog (157, D_zv) := fn_ok mixed (env_ok (fdC wcw (fdC wqh (fdC wqi (fdC wqi (fdC waqg fdN)))))) tabOK (fnMk D_zv (envOf [(104, wdj), (116, wnc), (218, wnf), (218, wnf), (219, D_zw)]) K_zv noZ [] ((f157.body).getD .skip) (fun x => T_zv x.1.1.1 x.1.1.2.1) (fun r => ((r, ()), ())) func157 (lpMk (by kernel_rfl) lpN) fun _ => by kernel_rfl)
theorem whf : FDok prog (146, wjj) := hand_clone
theorem wacf : (wfl).OK wtd tt wtc (orcOf wte) (loopAt wtf 0) := ldMk (fun _ => rfl) fun _ _ => by kernel_rfl
theorem waqh : LoopsOK wtd tt wtc wte wtf := lpMk (by kernel_rfl) (lpC wacf lpN)
theorem wagj : FDok prog (214, wtb) := fn_ok mixed (env_ok (fdC whf fdN)) tabOK (fnMk wtb wtd wakl wtc wte wtf (fun x => wta x.1.1) (fun r => (((), ()), (r, ()))) func214 waqh fun _ => by kernel_rfl)
theorem wacg : FDok prog (140, D_ze) := fn_ok mixed (env_ok (fdC whf (fdC wagj fdN))) tabOK (fnMk D_ze (envOf [(146, wjj), (214, wtb)]) K_ze noZ [] ((f140.body).getD .skip) (fun x => T_ze x.1.1.1 x.1.1.2.1 x.1.1.2.2.1 x.1.1.2.2.2.1) (fun r => ((((), ((), ((), (r.1, ())))), ()), (r.2.1, (r.2.2.1, (r.2.2.2, ()))))) func140 (lpMk (by kernel_rfl) lpN) fun _ => by kernel_rfl)
theorem waqi : FDok prog (59, D_zy) := fn_ok mixed (env_ok (fdC wpn (fdC wacg fdN))) tabOK (fnMk D_zy (envOf [(157, D_zv), (140, D_ze)]) K_zy noZ [] ((f59.body).getD .skip) (fun x => T_zy x.1.1.1 x.1.1.2.1) (fun r => ((((), ((), ((), (r.1, ())))), (r.2.1, ())), (r.2.2.1, (r.2.2.2.1, (r.2.2.2.2, ()))))) func59 (lpMk (by kernel_rfl) lpN) fun _ => by kernel_rfl)
theorem wcx : FDok prog (130, wdk) := fn_ok mixed (env_ok (fdN)) tabOK (fnMk wdk (envOf []) wakp noZ [] ((f130.body).getD .skip) (fun x => wtg x.1.1 x.1.2.1 x.1.2.2.1) (fun r => ((r, ()), ())) func130 (lpMk (by kernel_rfl) lpN) fun _ => by kernel_rfl)
theorem wach : (wfm).OK wtj tt noZ (orcOf wtk) (loopAt wtl 0) := ldMk (fun _ => rfl) fun _ _ => by kernel_rfl
theorem waqj : LoopsOK wtj tt noZ wtk wtl := lpMk (by kernel_rfl) (lpC wach lpN)
theorem wagk : FDok prog (200, wti) := fn_ok mixed (env_ok (fdC wcx fdN)) tabOK (fnMk wti wtj wakq noZ wtk wtl (fun x => wth x.1.1 x.1.2.1 x.1.2.2.1) (fun r => ((r, ()), ())) func200 waqj fun _ => by kernel_rfl)
theorem waci : (wfn).OK wtn tt noZ (orcOf wto) (loopAt wtp 0) := ldMk (fun _ => rfl) fun _ _ => by kernel_rfl
theorem waqk : LoopsOK wtn tt noZ wto wtp := lpMk (by kernel_rfl) (lpC waci lpN)
theorem wmh : FDok prog (166, wjo) := fn_ok mixed (env_ok (fdC wagk (fdC wcx fdN))) tabOK (fnMk wjo wtn wakr noZ wto wtp (fun x => wtm x.1.1.1 x.1.1.2.1) (fun r => ((r, ()), ())) func166 waqk fun _ => by kernel_rfl)
theorem wacj : (wfo).OK wts tt noZ (orcOf wtu) (loopAt wtv 0) := ldMk (fun _ => rfl) fun _ _ => by kernel_rfl
theorem waql : LoopsOK wts tt noZ wtu wtv := lpMk (by kernel_rfl) (lpC wacj lpN)
theorem wagl : FDok prog (122, wtr) := fn_ok mixed (env_ok (fdC wcx fdN)) tabOK (fnMk wtr wts waks noZ wtu wtv (fun x => wtq x.1.1 x.1.2.1 x.1.2.2.1) (fun r => ((r, ()), ())) func122 waql fun _ => by kernel_rfl)
theorem wqj : FDok prog (196, wni) := fn_ok mixed (env_ok (fdC wagl fdN)) tabOK (fnMk wni (envOf [(122, wtr)]) wakt noZ [] ((f196.body).getD .skip) (fun x => wtw x.1.1.1 x.1.1.2.1 x.1.2.1) (fun r => ((r, ()), ())) func196 (lpMk (by kernel_rfl) lpN) fun _ => by kernel_rfl)
theorem wcy : FDok prog (135, wdl) := fn_ok mixed (env_ok (fdC wmh (fdC wqj (fdC wcx fdN)))) tabOK (fnMk wdl (envOf [(166, wjo), (196, wni), (130, wdk)]) waku noZ [] ((f135.body).getD .skip) (fun x => wtx x.1.1.1 x.1.1.2.1 x.1.1.2.2.1 x.1.1.2.2.2.1) (fun r => ((r, ()), ())) func135 (lpMk (by kernel_rfl) lpN) fun _ => by kernel_rfl)
theorem wack : (wfp).OK wua tt wtz (orcOf wub) (loopAt wuc 0) := ldMk (fun _ => rfl) fun _ _ => by kernel_rfl
theorem waqm : LoopsOK wua tt wtz wub wuc := lpMk (by kernel_rfl) (lpC wack lpN)
theorem whg : FDok prog (156, whu) := fn_ok mixed (env_ok (fdC wcv fdN)) tabOK (fnMk whu wua wakv wtz wub wuc (fun x => wty x.1.1.1 x.1.1.2.1 x.1.1.2.2.1 x.1.1.2.2.2.1) (fun r => ((((), ((), ((), (r.1, ())))), ()), (r.2.1, (r.2.2.1, (r.2.2.2, ()))))) func156 waqm fun _ => by kernel_rfl)
theorem wagm : FDok prog (60, wue) := fn_ok mixed (env_ok (fdC wcy (fdC whg fdN))) tabOK (fnMk wue (envOf [(135, wdl), (156, whu)]) wakw noZ [] ((f60.body).getD .skip) (fun x => wud x.1.1.1 x.1.1.2.1) (fun r => ((((), ((), ((), (r.1, ())))), (r.2.1, ())), (r.2.2.1, (r.2.2.2.1, (r.2.2.2.2, ()))))) func60 (lpMk (by kernel_rfl) lpN) fun _ => by kernel_rfl)
theorem wagn : FDok prog (62, wug) := fn_ok mixed (env_ok (fdN)) tabOK (fnMk wug (envOf []) wakx noZ [] ((f62.body).getD .skip) (fun x => wuf x.1.1 x.1.2.1) (fun r => (((), ()), (r, ()))) func62 (lpMk (by kernel_rfl) lpN) fun _ => by kernel_rfl)
theorem wqk : FDok prog (121, wnk) := fn_ok mixed (env_ok (fdC wac fdN)) tabOK (fnMk wnk (envOf [(120, wbh)]) waky noZ [] ((f121.body).getD .skip) (fun x => wuh x.1.2.1 x.2.1.1 x.2.1.2.1 x.2.1.2.2.1) (fun r => ((r.1, ()), ((r.2.1, (r.2.2.1, (r.2.2.2, ()))), ()))) func121 (lpMk (by kernel_rfl) lpN) fun _ => by kernel_rfl)
theorem wacl : (wfq).OK wuj tt noZ (orcOf wuk) (loopAt wul 0) := ldMk (fun _ => rfl) fun _ _ => by kernel_rfl
theorem waqn : LoopsOK wuj tt noZ wuk wul := lpMk (by kernel_rfl) (lpC wacl lpN)
theorem wql : FDok prog (119, wnl) := fn_ok mixed (env_ok (fdN)) tabOK (fnMk wnl wuj wakz noZ wuk wul (fun x => wui x.1.1 x.1.2.1) (fun r => (((), ()), (r, ()))) func119 waqn fun _ => by kernel_rfl)
theorem wacm : (wfr).OK wup tt wuo (orcOf wuq) (loopAt wur 0) := ldMk (fun _ => rfl) fun _ _ => by kernel_rfl
theorem waqo : LoopsOK wup tt wuo wuq wur := lpMk (by kernel_rfl) (lpC wacm lpN)
theorem wago : FDok prog (220, wun) := fn_ok mixed (env_ok (fdC wac (fdC wqk (fdC wec fdN)))) tabOK (fnMk wun wup wala wuo wuq wur (fun x => wum x.1.2.1 x.2.1.1 x.2.1.2.1 x.2.1.2.2.1) (fun r => (((), ()), (r.1, ((r.2.1, (r.2.2.1, (r.2.2.2, ()))), ())))) func220 waqo fun _ => by kernel_rfl)
theorem wmi : FDok prog (159, wjv) := fn_ok mixed (env_ok (fdC wac (fdC wqe (fdC wqd (fdC wec (fdC wago fdN)))))) tabOK (fnMk wjv (envOf [(120, wbh), (194, wmu), (197, wmq), (83, wed), (220, wun)]) walb walc [] ((f159.body).getD .skip) (fun x => wno x.1.2.1.1 x.1.2.1.2.1 x.2.1.1 x.2.1.2.1 x.2.1.2.2.1) (fun r => (((r.1, (r.2.1, (r.2.2.1, (r.2.2.2.1, ((), ()))))), ()), (r.2.2.2.2.1, ((r.2.2.2.2.2.1, (r.2.2.2.2.2.2.1, (r.2.2.2.2.2.2.2, ()))), ())))) func159 (lpMk (by kernel_rfl) lpN) fun _ => by kernel_rfl)
theorem wagp : FDok prog (209, wut) := fn_ok mixed (env_ok (fdN)) tabOK (fnMk wut (envOf []) wald noZ [] ((f209.body).getD .skip) (fun x => wus x.1.1.1 x.1.1.2.1 x.1.1.2.2.1 x.1.1.2.2.2.1 x.1.1.2.2.2.2.1) (fun r => ((r, ()), ())) func209 (lpMk (by kernel_rfl) lpN) fun _ => by kernel_rfl)
theorem wqm : FDok prog (244, wnq) := fn_ok mixed (env_ok (fdC wcx fdN)) tabOK (fnMk wnq (envOf [(130, wdk)]) wale noZ [] ((f244.body).getD .skip) (fun x => wuu x.1.1.1 x.1.1.2.1 x.1.2.1) (fun r => ((r, ()), ())) func244 (lpMk (by kernel_rfl) lpN) fun _ => by kernel_rfl)
theorem wacn : (wft).OK wuw tt noZ (orcOf wux) (loopAt wuy 0) := ldMk (fun _ => rfl) fun _ _ => by kernel_rfl
theorem waqp : LoopsOK wuw tt noZ wux wuy := lpMk (by kernel_rfl) (lpC wacn lpN)
theorem wmj : FDok prog (112, wjx) := fn_ok mixed (env_ok (fdN)) tabOK (fnMk wjx wuw walf noZ wux wuy (fun x => wuv x.1.1 x.1.2.1) (fun r => ((r, ()), ())) func112 waqp fun _ => by kernel_rfl)
theorem wagq : FDok prog (243, wva) := fn_ok mixed (env_ok (fdC wqm (fdC wmj fdN))) tabOK (fnMk wva (envOf [(244, wnq), (112, wjx)]) walg noZ [] ((f243.body).getD .skip) (fun x => wuz x.1.1.1 x.1.1.2.1 x.1.1.2.2.1 x.1.1.2.2.2.1 x.1.2.1) (fun r => ((r, ()), ())) func243 (lpMk (by kernel_rfl) lpN) fun _ => by kernel_rfl)
theorem wagr : FDok prog (210, wvc) := fn_ok mixed (env_ok (fdC wagq (fdC wmj (fdC wqm (fdC wcx fdN))))) tabOK (fnMk wvc (envOf [(243, wva), (112, wjx), (244, wnq), (130, wdk)]) walh noZ [] ((f210.body).getD .skip) (fun x => wvb x.1.1.1 x.1.1.2.1 x.1.1.2.2.1 x.1.1.2.2.2.1 x.1.2.1.1 x.1.2.1.2.1 x.1.2.1.2.2.1 x.1.2.1.2.2.2.1 x.1.2.1.2.2.2.2.1) (fun r => ((r, ()), ())) func210 (lpMk (by kernel_rfl) lpN) fun _ => by kernel_rfl)
theorem waco : (wfu).OK wvf tt wve (orcOf wvg) (loopAt wvh 0) := ldMk (fun _ => rfl) fun _ _ => by kernel_rfl
theorem waqq : LoopsOK wvf tt wve wvg wvh := lpMk (by kernel_rfl) (lpC waco lpN)
theorem wqn : FDok prog (169, wns) := fn_ok mixed (env_ok (fdN)) tabOK (fnMk wns wvf wali wve wvg wvh (fun x => wvd x.1.1 x.1.2.1) (fun r => (((), ()), (r, ()))) func169 waqq fun _ => by kernel_rfl)
theorem wacp : (wfv).OK wvj tt noZ (orcOf wvk) (loopAt wvl 0) := ldMk (fun _ => rfl) fun _ _ => by kernel_rfl
theorem waqr : LoopsOK wvj tt noZ wvk wvl := lpMk (by kernel_rfl) (lpC wacp lpN)
theorem wqo : FDok prog (245, wnt) := fn_ok mixed (env_ok (fdN)) tabOK (fnMk wnt wvj walj noZ wvk wvl (fun x => wvi x.1.1 x.1.2.1) (fun r => (((), ()), (r, ()))) func245 waqr fun _ => by kernel_rfl)
theorem wags : FDok prog (265, wvn) := fn_ok mixed (env_ok (fdC wcv fdN)) tabOK (fnMk wvn (envOf [(173, wdi)]) walm noZ [] ((f265.body).getD .skip) (fun x => wvm x.1.1 x.1.2.1) (fun r => (((), ()), (r, ()))) func265 (lpMk (by kernel_rfl) lpN) fun _ => by kernel_rfl)
theorem wacq : (wfw).OK wnv tt noZ (orcOf wnw) (loopAt wnx 0) := ldMk (fun _ => rfl) fun _ _ => by kernel_rfl
theorem wacr : (wfx).OK wnv tt noZ (orcOf wnw) (loopAt wnx 2) := ldMk (fun _ => rfl) fun _ _ => by kernel_rfl
theorem waqs : LoopsOK wnv tt noZ wnw wnx := lpMk (by kernel_rfl) (lpC wacq (lpC wacr lpN))
theorem wagt : FDok prog (246, wvp) := fn_ok mixed (env_ok (fdC whg (fdC wags fdN))) tabOK (fnMk wvp wnv waln noZ wnw wnx (fun x => wvo x.1.1.1 x.1.1.2.1 x.1.1.2.2.1 x.1.1.2.2.2.1 x.1.2.1) (fun r => ((((), ((), ((), (r.1, ())))), ()), (r.2.1, (r.2.2.1, (r.2.2.2, ()))))) func246 waqs fun _ => by kernel_rfl)
theorem wagu : FDok prog (101, wvr) := fn_ok mixed (env_ok (fdC wmh (fdC wqj fdN))) tabOK (fnMk wvr (envOf [(166, wjo), (196, wni)]) walo noZ [] ((f101.body).getD .skip) (fun x => wvq x.1.1.1 x.1.1.2.1 x.1.2.1) (fun r => ((r, ()), ())) func101 (lpMk (by kernel_rfl) lpN) fun _ => by kernel_rfl)
theorem wacs : (wfy).OK wkg tt wkf (orcOf wkh) (loopAt wki 2) := ldMk (fun _ => rfl) fun _ _ => by kernel_rfl
theorem wer : (wbg).OK wkg tt wkf (orcOf wkh) (loopAt wki 2) := ldMk (fun _ => rfl) fun _ _ => by kernel_rfl
theorem wact : (wfz).OK wkg tt wkf (orcOf wkh) (loopAt wki 0) := ldMk (fun _ => rfl) fun _ _ => by kernel_rfl
theorem waqt : LoopsOK wkg tt wkf wkh wki := lpMk (by kernel_rfl) (lpC wacs (lpC wer (lpC wact lpN)))
theorem wagv : FDok prog (227, wvt) := fn_ok mixed (env_ok (fdC wmj (fdC wqn (fdC wqo fdN)))) tabOK (fnMk wvt wkg walp wkf wkh wki (fun x => wvs x.1.1.1 x.1.1.2.1 x.1.2.1) (fun r => (((), ()), (r, ()))) func227 waqt fun _ => by kernel_rfl)
theorem wacu : (wga).OK wvw tt noZ (orcOf wvx) (loopAt wvy 0) := ldMk (fun _ => rfl) fun _ _ => by kernel_rfl
theorem waqu : LoopsOK wvw tt noZ wvx wvy := lpMk (by kernel_rfl) (lpC wacu lpN)
theorem wagw : FDok prog (262, wvv) := fn_ok mixed (env_ok (fdN)) tabOK (fnMk wvv wvw walq noZ wvx wvy (fun x => wvu x.1.1.1 x.1.1.2.1 x.1.2.1 x.1.2.2.1) (fun r => ((r, ()), ())) func262 waqu fun _ => by kernel_rfl)
theorem wagx : FDok prog (239, wwa) := fn_ok mixed (env_ok (fdC wagw fdN)) tabOK (fnMk wwa (envOf [(262, wvv)]) walr noZ [] ((f239.body).getD .skip) (fun x => wvz x.1.1.1 x.1.1.2.1 x.1.2.1 x.1.2.2.1) (fun r => ((r, ()), ())) func239 (lpMk (by kernel_rfl) lpN) fun _ => by kernel_rfl)
theorem wacv : (wgb).OK wwe tt noZ (orcOf wwf) (loopAt wwg 0) := ldMk (fun _ => rfl) fun _ _ => by kernel_rfl
theorem waqv : LoopsOK wwe tt noZ wwf wwg := lpMk (by kernel_rfl) (lpC wacv lpN)
theorem wagy : FDok prog (190, wwc) := fn_ok mixed (env_ok (fdC wagx fdN)) tabOK (fnMk wwc wwe wals noZ wwf wwg (fun x => wwb x.1.1.1 x.1.1.2.1 x.1.2.1) (fun r => ((r, ()), ())) func190 waqv fun _ => by kernel_rfl)
theorem wacw : (wgc).OK wwj tt noZ (orcOf wwk) (loopAt wwl 0) := ldMk (fun _ => rfl) fun _ _ => by kernel_rfl
theorem waqw : LoopsOK wwj tt noZ wwk wwl := lpMk (by kernel_rfl) (lpC wacw lpN)
theorem wagz : FDok prog (191, wwi) := fn_ok mixed (env_ok (fdN)) tabOK (fnMk wwi wwj walt noZ wwk wwl (fun x => wwh x.1.1.1 x.1.1.2.1 x.1.2.1) (fun r => ((r, ()), ())) func191 waqw fun _ => by kernel_rfl)
theorem wqp : FDok prog (192, woe) := fn_ok mixed (env_ok (fdC wagy (fdC wagz fdN))) tabOK (fnMk woe (envOf [(190, wwc), (191, wwi)]) walu noZ [] ((f192.body).getD .skip) (fun x => wwm x.1.1.1 x.1.1.2.1 x.1.2.1) (fun r => ((r, ()), ())) func192 (lpMk (by kernel_rfl) lpN) fun _ => by kernel_rfl)
theorem wacx : (wgd).OK wwp tt noZ (orcOf wwq) (loopAt wwr 0) := ldMk (fun _ => rfl) fun _ _ => by kernel_rfl
theorem waqx : LoopsOK wwp tt noZ wwq wwr := lpMk (by kernel_rfl) (lpC wacx lpN)
theorem waha : FDok prog (172, wwo) := fn_ok mixed (env_ok (fdC wagv (fdC wqp fdN))) tabOK (fnMk wwo wwp walv noZ wwq wwr (fun x => wwn x.1.1.1 x.1.1.2.1 x.1.2.1) (fun r => (((), (r.1, ())), (r.2, ()))) func172 waqx fun _ => by kernel_rfl)
theorem wacy : (wge).OK wwu tt noZ (orcOf wwv) (loopAt www 0) := ldMk (fun _ => rfl) fun _ _ => by kernel_rfl
theorem waqy : LoopsOK wwu tt noZ wwv www := lpMk (by kernel_rfl) (lpC wacy lpN)
theorem wahb : FDok prog (78, wwt) := fn_ok mixed (env_ok (fdC wagu (fdC wcv (fdC waha fdN)))) tabOK (fnMk wwt wwu walw noZ wwv www (fun x => wws x.1.1.1 x.1.1.2.1 x.1.2.1) (fun r => (((), (r.1, (r.2.1, ()))), (r.2.2, ()))) func78 waqy fun _ => by kernel_rfl)
theorem wacz : (wgf).OK wwz tt noZ (orcOf wxa) (loopAt wxb 0) := ldMk (fun _ => rfl) fun _ _ => by kernel_rfl
theorem waqz : LoopsOK wwz tt noZ wxa wxb := lpMk (by kernel_rfl) (lpC wacz lpN)
theorem wahc : FDok prog (189, wwy) := fn_ok mixed (env_ok (fdN)) tabOK (fnMk wwy wwz walx noZ wxa wxb (fun x => waei x.1.1 x.1.2.1) (fun r => ((r, ()), ())) func189 waqz fun _ => by kernel_rfl)
theorem wada : (wgg).OK woi tt woh (orcOf woj) (loopAt wok 2) := ldMk (fun _ => rfl) fun _ _ => by kernel_rfl
theorem wadb : (wgh).OK woi tt woh (orcOf woj) (loopAt wok 0) := ldMk (fun _ => rfl) fun _ _ => by kernel_rfl
theorem wara : LoopsOK woi tt woh woj wok := lpMk (by kernel_rfl) (lpC wada (lpC wadb lpN))
theorem wahd : FDok prog (96, wxe) := fn_ok mixed (env_ok (fdC wql (fdC wahc fdN))) tabOK (fnMk wxe woi waly woh woj wok (fun x => waek x.1.1) (fun r => ((r, ()), ())) func96 wara fun _ => by kernel_rfl)
theorem wadc : (wgi).OK wxh tt noZ (orcOf wxi) (loopAt wxj 0) := ldMk (fun _ => rfl) fun _ _ => by kernel_rfl
theorem warb : LoopsOK wxh tt noZ wxi wxj := lpMk (by kernel_rfl) (lpC wadc lpN)
theorem wahe : FDok prog (247, wxg) := fn_ok mixed (env_ok (fdC wahd (fdC wqp fdN))) tabOK (fnMk wxg wxh walz noZ wxi wxj (fun x => wxf x.1.1.1 x.1.1.2.1) (fun r => ((r, ()), ())) func247 warb fun _ => by kernel_rfl)
theorem wadd : (wgj).OK wxm tt noZ (orcOf wxn) (loopAt wxo 1) := ldMk (fun _ => rfl) fun _ _ => by kernel_rfl
theorem warc : LoopsOK wxm tt noZ wxn wxo := lpMk (by kernel_rfl) (lpC wadd lpN)
theorem wahf : FDok prog (211, wxl) := fn_ok mixed (env_ok (fdC whg (fdC wqn (fdC wqo (fdC wcv (fdC wagt (fdC wahb (fdC wahe fdN)))))))) tabOK (fnMk wxl wxm wama noZ wxn wxo (fun x => wxk x.1.1.1 x.1.1.2.1 x.1.1.2.2.1 x.1.1.2.2.2.1 x.1.2.1.1 x.1.2.1.2.1 x.1.2.1.2.2.1 x.1.2.1.2.2.2.1 x.1.2.1.2.2.2.2.1) (fun r => ((((), ((), ((), (r.1, ())))), ()), (r.2.1, (r.2.2.1, (r.2.2.2, ()))))) func211 warc fun _ => by kernel_rfl)
theorem wmk : FDok prog (136, wks) := fn_ok mixed (env_ok (fdC wagp (fdC wagr (fdC wahf (fdC wcy fdN))))) tabOK (fnMk wks (envOf [(209, wut), (210, wvc), (211, wxl), (135, wdl)]) wamb noZ [] ((f136.body).getD .skip) (fun x => wxp x.1.1.1 x.1.1.2.1 x.1.1.2.2.1 x.1.1.2.2.2.1 x.1.2.1.1 x.1.2.1.2.1 x.1.2.1.2.2.1 x.1.2.1.2.2.2.1 x.1.2.1.2.2.2.2.1) (fun r => ((((), ((), ((), (r.1, ())))), (r.2.1, ())), (r.2.2.1, (r.2.2.2.1, (r.2.2.2.2, ()))))) func136 (lpMk (by kernel_rfl) lpN) fun _ => by kernel_rfl)
theorem wade : (wgk).OK wxr tt wxq (orcOf wxs) (loopAt wxt 0) := ldMk (fun _ => rfl) fun _ _ => by kernel_rfl
theorem ward : LoopsOK wxr tt wxq wxs wxt := lpMk (by kernel_rfl) (lpC wade lpN)
theorem wqq : FDok prog (158, woo) := fn_ok mixed (env_ok (fdC wqf (fdC wmh (fdC wqk (fdC wac (fdC wql (fdC wcy (fdC wmi (fdC wmk (fdC wec fdN)))))))))) tabOK (fnMk woo wxr wamc wxq wxs wxt (fun x => won x.2.1.1 x.2.1.2.1 x.2.1.2.2.1) (fun r => (((r.1, (r.2.1, ((), (r.2.2.1, ())))), ()), (r.2.2.2.1, ((r.2.2.2.2.1, (r.2.2.2.2.2.1, (r.2.2.2.2.2.2, ()))), ())))) func158 ward fun _ => by kernel_rfl)
theorem wahg : FDok prog (61, wxv) := fn_ok mixed (env_ok (fdC wqq (fdC wmi fdN))) tabOK (fnMk wxv (envOf [(158, woo), (159, wjv)]) wamd noZ [] ((f61.body).getD .skip) (fun x => wxu x.1.1) (fun r => (((r.1, (r.2.1, ((), (r.2.2.1, ())))), ((r.2.2.2.1, (r.2.2.2.2.1, (r.2.2.2.2.2.1, (r.2.2.2.2.2.2.1, ((), ()))))), ())), (r.2.2.2.2.2.2.2.1, (r.2.2.2.2.2.2.2.2, ())))) func61 (lpMk (by kernel_rfl) lpN) fun _ => by kernel_rfl)
theorem wadf : (wgl).OK wxx tt noZ (orcOf wxy) (loopAt wxz 0) := ldMk (fun _ => rfl) fun _ _ => by kernel_rfl
theorem ware : LoopsOK wxx tt noZ wxy wxz := lpMk (by kernel_rfl) (lpC wadf lpN)
theorem wqr : FDok prog (117, woq) := fn_ok mixed (env_ok (fdC wcw fdN)) tabOK (fnMk woq wxx wame noZ wxy wxz (fun x => wxw x.1.1 x.1.2.1) (fun r => ((r, ()), ())) func117 ware fun _ => by kernel_rfl)
theorem wpo : FDok prog (65, D_zu) := fn_ok mixed (env_ok (fdC wpn (fdC wqr (fdC wcw fdN)))) tabOK (fnMk D_zu (envOf [(157, D_zv), (117, woq), (104, wdj)]) K_zu noZ [] ((f65.body).getD .skip) (fun x => T_zu x.1.1.1 x.1.1.2.1 x.1.1.2.2.1 x.1.1.2.2.2.1) (fun r => ((r, ()), ())) func65 (lpMk (by kernel_rfl) lpN) fun _ => by kernel_rfl)
theorem wahh : FDok prog (213, wyb) := fn_ok mixed (env_ok (fdN)) tabOK (fnMk wyb (envOf []) wamg noZ [] ((f213.body).getD .skip) (fun x => wya x.1.1) (fun r => ((r.1, (r.2.1, (r.2.2, ()))), ())) func213 (lpMk (by kernel_rfl) lpN) fun _ => by kernel_rfl)
theorem warf : FDok prog (139, D_zj) := fn_ok mixed (env_ok (fdC wahh fdN)) tabOK (fnMk D_zj (envOf [(213, wyb)]) K_zj noZ [] ((f139.body).getD .skip) (fun x => T_zj x.1.1.1 x.1.1.2.1 x.1.1.2.2.1 x.1.1.2.2.2.1 x.1.1.2.2.2.2.1) (fun r => ((r, ()), ())) func139 (lpMk (by kernel_rfl) lpN) fun _ => by kernel_rfl)
theorem wadg : (wgm).OK wyd tt noZ (orcOf wye) (loopAt wyf 0) := ldMk (fun _ => rfl) fun _ _ => by kernel_rfl
theorem warg : LoopsOK wyd tt noZ wye wyf := lpMk (by kernel_rfl) (lpC wadg lpN)
theorem wml : FDok prog (141, wkx) := fn_ok mixed (env_ok (fdN)) tabOK (fnMk wkx wyd wamj noZ wye wyf (fun x => wyc x.1.1) (fun r => ((r, ()), ())) func141 warg fun _ => by kernel_rfl)
theorem warh : FDok prog (142, D_zi) := fn_ok mixed (env_ok (fdC wcw fdN)) tabOK (fnMk D_zi (envOf [(104, wdj)]) K_zi noZ [] ((f142.body).getD .skip) (fun x => T_zi x.1.1 x.1.2.1.1 x.1.2.1.2.1 x.1.2.1.2.2.1 x.1.2.1.2.2.2.1) (fun r => ((r, ()), ())) func142 (lpMk (by kernel_rfl) lpN) fun _ => by kernel_rfl)
theorem wmm : FDok prog (143, wky) := fn_ok mixed (env_ok (fdN)) tabOK (fnMk wky (envOf []) wamm noZ [] ((f143.body).getD .skip) (fun x => wael x.1.1 x.1.2.1) (fun r => ((r, ()), ())) func143 (lpMk (by kernel_rfl) lpN) fun _ => by kernel_rfl)
theorem wadh : (wgn).OK wyh tt noZ (orcOf wyi) (loopAt wyj 0) := ldMk (fun _ => rfl) fun _ _ => by kernel_rfl
theorem wari : LoopsOK wyh tt noZ wyi wyj := lpMk (by kernel_rfl) (lpC wadh lpN)
theorem whh : FDok prog (144, wib) := fn_ok mixed (env_ok (fdC wmm fdN)) tabOK (fnMk wib wyh wamn noZ wyi wyj (fun x => waem x.1.1) (fun r => (((), ()), (r, ()))) func144 wari fun _ => by kernel_rfl)
theorem wqs : FDok prog (145, wor) := fn_ok mixed (env_ok (fdC wml (fdC whh fdN))) tabOK (fnMk wor (envOf [(141, wkx), (144, wib)]) wamo noZ [] ((f145.body).getD .skip) (fun x => wyk x.1.1 x.1.2.1 x.1.2.2.1) (fun r => (((), ()), (r, ()))) func145 (lpMk (by kernel_rfl) lpN) fun _ => by kernel_rfl)
theorem wahi : FDok prog (147, waen) := hand_delI
theorem wahj : FDok prog (148, waep) := hand_delR
theorem warj : FDok prog (195, D_zm) := fn_ok mixed (env_ok (fdC wqr fdN)) tabOK (fnMk D_zm (envOf [(117, woq)]) K_zm noZ [] ((f195.body).getD .skip) (fun x => T_zm x.1.1.1 x.1.1.2.1 x.1.2.1) (fun r => ((r, ()), ())) func195 (lpMk (by kernel_rfl) lpN) fun _ => by kernel_rfl)
theorem wqt : FDok prog (99, wot) := fn_ok mixed (env_ok (fdC wpn (fdC warj fdN))) tabOK (fnMk wot (envOf [(157, D_zv), (195, D_zm)]) wams noZ [] ((f99.body).getD .skip) (fun x => wyl x.1.1.1 x.1.1.2.1 x.1.2.1) (fun r => ((r, ()), ())) func99 (lpMk (by kernel_rfl) lpN) fun _ => by kernel_rfl)
theorem wahk : (wlc).OK E_zp tt noZ (orcOf O_zp) (loopAt C_zp 0) := ldMk (fun _ => rfl) fun _ _ => by kernel_rfl
theorem o_zp : LoopsOK E_zp tt noZ O_zp C_zp := lpMk (by kernel_rfl) (lpC wahk lpN)
theorem wark : FDok prog (187, D_zp) := fn_ok mixed (env_ok (fdN)) tabOK (fnMk D_zp E_zp K_zp noZ O_zp C_zp (fun x => T_zp x.1.1.1 x.1.1.2.1 x.1.2.1) (fun r => ((r, ()), ())) func187 o_zp fun _ => by kernel_rfl)
theorem wahl : (wle).OK E_zr tt noZ (orcOf O_zr) (loopAt C_zr 0) := ldMk (fun _ => rfl) fun _ _ => by kernel_rfl
theorem o_zr : LoopsOK E_zr tt noZ O_zr C_zr := lpMk (by kernel_rfl) (lpC wahl lpN)
theorem warl : FDok prog (274, D_zr) := fn_ok mixed (env_ok (fdN)) tabOK (fnMk D_zr E_zr K_zr noZ O_zr C_zr (fun x => T_zr x.1.1.1 x.1.1.2.1 x.1.2.1 x.1.2.2.1) (fun r => ((r, ()), ())) func274 o_zr fun _ => by kernel_rfl)
theorem wahm : (wlf).OK E_zq tt noZ (orcOf O_zq) (loopAt C_zq 0) := ldMk (fun _ => rfl) fun _ _ => by kernel_rfl
theorem o_zq : LoopsOK E_zq tt noZ O_zq C_zq := lpMk (by kernel_rfl) (lpC wahm lpN)
theorem warm : FDok prog (261, D_zq) := fn_ok mixed (env_ok (fdC warl fdN)) tabOK (fnMk D_zq E_zq K_zq noZ O_zq C_zq (fun x => T_zq x.1.1.1 x.1.1.2.1 x.1.2.1) (fun r => (((), ()), (r, ()))) func261 o_zq fun _ => by kernel_rfl)
theorem wahn : (wlg).OK E_zn tt noZ (orcOf O_zn) (loopAt C_zn 0) := ldMk (fun _ => rfl) fun _ _ => by kernel_rfl
theorem o_zn : LoopsOK E_zn tt noZ O_zn C_zn := lpMk (by kernel_rfl) (lpC wahn lpN)
theorem warn : FDok prog (237, D_zn) := fn_ok mixed (env_ok (fdC warm fdN)) tabOK (fnMk D_zn E_zn K_zn noZ O_zn C_zn (fun x => T_zn x.1.1.1 x.1.1.2.1 x.1.2.1) (fun r => (((), ()), (r, ()))) func237 o_zn fun _ => by kernel_rfl)
theorem wadi : (wgo).OK wyo tt noZ (orcOf wyp) (loopAt wyq 0) := ldMk (fun _ => rfl) fun _ _ => by kernel_rfl
theorem waro : LoopsOK wyo tt noZ wyp wyq := lpMk (by kernel_rfl) (lpC wadi lpN)
theorem waho : FDok prog (236, wyn) := fn_ok mixed (env_ok (fdN)) tabOK (fnMk wyn wyo wann noZ wyp wyq (fun x => wym x.1.1) (fun r => ((r, ()), ())) func236 waro fun _ => by kernel_rfl)
theorem warp : FDok prog (186, D_zs) := fn_ok mixed (env_ok (fdC warn (fdC waho fdN))) tabOK (fnMk D_zs (envOf [(237, D_zn), (236, wyn)]) K_zs noZ [] ((f186.body).getD .skip) (fun x => T_zs x.1.1.1 x.1.1.2.1 x.1.2.1) (fun r => ((r, ()), ())) func186 (lpMk (by kernel_rfl) lpN) fun _ => by kernel_rfl)
theorem wpp : FDok prog (174, D_zt) := fn_ok mixed (env_ok (fdC wark (fdC warp fdN))) tabOK (fnMk D_zt (envOf [(187, D_zp), (186, D_zs)]) K_zt noZ [] ((f174.body).getD .skip) (fun x => T_zt x.1.1.1 x.1.1.2.1 x.1.2.1) (fun r => ((r, ()), ())) func174 (lpMk (by kernel_rfl) lpN) fun _ => by kernel_rfl)
theorem warq : FDok prog (226, D_zl) := fn_ok2 mixed (env_ok (fdC wpp fdN)) tabOK (fnMk2 D_zl (envOf [(174, D_zt)]) K_zl waeq noZ [] ((f226.body).getD .skip) (fun x => T_zl x.2.1 x.2.2.1.1 x.2.2.1.2.1 x.2.2.2.1.1) (fun r => match r with | .inl a => .inl ((true, ()), (a.1, ((a.2.1, (a.2.2.1, ())), ((a.2.2.2, ()), (((), ()), ()))))) | .inr b => .inr ((false, ()), (b.1, ((b.2.1, (b.2.2.1, ())), ((b.2.2.2, ()), (((), ()), ())))))) func226 (lpMk (by kernel_rfl) lpN) (fun _ => by kernel_rfl) fun r => by cases r <;> rfl)
theorem wahp : (wli).OK E_zo tt noZ (orcOf O_zo) (loopAt C_zo 0) := ldMk (fun _ => rfl) fun _ _ => by kernel_rfl
theorem wahq : (wlj).OK E_zo tt noZ (orcOf O_zo) (loopAt C_zo 2) := ldMk (fun _ => rfl) fun _ _ => by kernel_rfl
theorem wahr : (wlk).OK E_zo tt noZ (orcOf O_zo) (loopAt C_zo 6) := ldMk (fun _ => rfl) fun _ _ => by kernel_rfl
theorem wahs : (wll).OK E_zo tt noZ (orcOf O_zo) (loopAt C_zo 4) := ldMk (fun _ => rfl) fun _ _ => by kernel_rfl
theorem o_zo : LoopsOK E_zo tt noZ O_zo C_zo := lpMk (by kernel_rfl) (lpC wahp (lpC wahq (lpC wahr (lpC wahs lpN))))
theorem warr : FDok prog (225, D_zo) := fn_ok2 mixed (env_ok (fdC wml (fdC wmm (fdC whh (fdC warq (fdC wqs fdN)))))) tabOK (fnMk2 D_zo E_zo K_zo waer noZ O_zo C_zo (fun x => T_zo x.1.1.1 x.1.1.2.1 x.1.2.1 x.2.1.1 x.2.1.2.1 x.2.2.1.1) (fun r => match r with | .inl a => .inl ((), ((a.1, (a.2.1, ())), ((a.2.2, ()), (((), ()), ())))) | .inr b => .inr ((), ((b.1, (b.2.1, ())), ((b.2.2.1, ()), (((), ()), (b.2.2.2, ())))))) func225 o_zo (fun _ => by kernel_rfl) fun r => by cases r <;> rfl)
theorem wars : FDok prog (171, D_zk) := fn_ok mixed (env_ok (fdC wpp (fdC warr fdN))) tabOK (fnMk D_zk (envOf [(174, D_zt), (225, D_zo)]) K_zk noZ [] ((f171.body).getD .skip) (fun x => T_zk x.1.1.1 x.1.1.2.1 x.1.2.1) (fun r => (((), (r.1, ())), (r.2, ()))) func171 (lpMk (by kernel_rfl) lpN) fun _ => by kernel_rfl)
theorem waht : (wlm).OK E_zx tt noZ (orcOf O_zx) (loopAt C_zx 0) := ldMk (fun _ => rfl) fun _ _ => by kernel_rfl
theorem o_zx : LoopsOK E_zx tt noZ O_zx C_zx := lpMk (by kernel_rfl) (lpC waht lpN)
theorem wart : FDok prog (77, D_zx) := fn_ok mixed (env_ok (fdC wqt (fdC whf (fdC wars fdN)))) tabOK (fnMk D_zx E_zx K_zx noZ O_zx C_zx (fun x => T_zx x.1.1.1 x.1.1.2.1 x.1.2.1) (fun r => (((), (r.1, (r.2.1, ()))), (r.2.2, ()))) func77 o_zx fun _ => by kernel_rfl)
theorem wahu : FDok prog (260, wyr) := fn_ok mixed (env_ok (fdN)) tabOK (fnMk wyr (envOf []) waod noZ [] ((f260.body).getD .skip) (fun x => waes x.1.1) (fun r => ((r, ()), ())) func260 (lpMk (by kernel_rfl) lpN) fun _ => by kernel_rfl)
theorem wqu : FDok prog (234, wov) := fn_ok mixed (env_ok (fdC wahu fdN)) tabOK (fnMk wov (envOf [(260, wyr)]) waoe noZ [] ((f234.body).getD .skip) (fun x => waeu x.1.1) (fun r => ((r, ()), ())) func234 (lpMk (by kernel_rfl) lpN) fun _ => by kernel_rfl)
theorem wadj : (wgp).OK wow tt noZ (orcOf wox) (loopAt woy 2) := ldMk (fun _ => rfl) fun _ _ => by kernel_rfl
theorem wadk : (wgq).OK wow tt noZ (orcOf wox) (loopAt woy 0) := ldMk (fun _ => rfl) fun _ _ => by kernel_rfl
theorem waru : LoopsOK wow tt noZ wox woy := lpMk (by kernel_rfl) (lpC wadj (lpC wadk lpN))
theorem wahv : FDok prog (251, wyv) := fn_ok mixed (env_ok (fdN)) tabOK (fnMk wyv wow waof noZ wox woy (fun x => waev x.1.2.1 x.1.2.2.1 x.1.2.2.2.1 x.2.1) (fun r => ((), (r, ()))) func251 waru fun _ => by kernel_rfl)
theorem wahw : FDok prog (270, wyw) := fn_ok mixed (env_ok (fdC wqu fdN)) tabOK (fnMk wyw (envOf [(234, wov)]) waog noZ [] ((f270.body).getD .skip) (fun x => waex x.1.1) (fun r => ((r, ()), ())) func270 (lpMk (by kernel_rfl) lpN) fun _ => by kernel_rfl)
theorem wahx : FDok prog (271, wyx) := fn_ok mixed (env_ok (fdN)) tabOK (fnMk wyx (envOf []) waoh noZ [] ((f271.body).getD .skip) (fun x => waez x.2.1.1) (fun r => ((r.1, ()), ((r.2, ()), ()))) func271 (lpMk (by kernel_rfl) lpN) fun _ => by kernel_rfl)
theorem wadl : (wgr).OK wza tt noZ (orcOf wzb) (loopAt wzc 0) := ldMk (fun _ => rfl) fun _ _ => by kernel_rfl
theorem warv : LoopsOK wza tt noZ wzb wzc := lpMk (by kernel_rfl) (lpC wadl lpN)
theorem wahy : FDok prog (253, wyz) := fn_ok mixed (env_ok (fdC wahw (fdC wahx fdN))) tabOK (fnMk wyz wza waoi noZ wzb wzc (fun x => wafb x.1.2.1 x.1.2.2.1 x.1.2.2.2.1 x.2.1) (fun r => ((), (r, ()))) func253 warv fun _ => by kernel_rfl)
theorem wahz : FDok prog (286, wzd) := fn_ok mixed (env_ok (fdN)) tabOK (fnMk wzd (envOf []) waoj noZ [] ((f286.body).getD .skip) (fun x => wafd x.1.1 x.1.2.1 x.1.2.2.1 x.1.2.2.2.2.1 x.2.1.1) (fun r => ((r.1, (r.2.1, ())), ((r.2.2, ()), ()))) func286 (lpMk (by kernel_rfl) lpN) fun _ => by kernel_rfl)
theorem wqv : FDok prog (273, wpb) := fn_ok mixed (env_ok (fdC wahz fdN)) tabOK (fnMk wpb (envOf [(286, wzd)]) waok noZ [] ((f273.body).getD .skip) (fun x => wafe x.1.1 x.1.2.1 x.1.2.2.1 x.1.2.2.2.1 x.1.2.2.2.2.2.1 x.2.1.1) (fun r => ((r.1, ()), ((r.2, ()), ()))) func273 (lpMk (by kernel_rfl) lpN) fun _ => by kernel_rfl)
theorem waia : FDok prog (272, wze) := fn_ok mixed (env_ok (fdC wqv fdN)) tabOK (fnMk wze (envOf [(273, wpb)]) waol noZ [] ((f272.body).getD .skip) (fun x => waff x.1.1 x.1.2.1 x.1.2.2.2.1 x.2.1.1) (fun r => ((r.1, ()), ((r.2, ()), ()))) func272 (lpMk (by kernel_rfl) lpN) fun _ => by kernel_rfl)
theorem waib : FDok prog (254, wzg) := fn_ok mixed (env_ok (fdC waia (fdC wqv fdN))) tabOK (fnMk wzg (envOf [(272, wze), (273, wpb)]) waom noZ [] ((f254.body).getD .skip) (fun x => wafg x.1.1 x.1.2.1 x.1.2.2.1 x.1.2.2.2.1) (fun r => ((r.1, (r.2, ())), ())) func254 (lpMk (by kernel_rfl) lpN) fun _ => by kernel_rfl)
theorem wadm : (wgs).OK wen tt noZ (orcOf weo) (loopAt wep 0) := ldMk (fun _ => rfl) fun _ _ => by kernel_rfl
theorem wadn : (wgt).OK wen tt noZ (orcOf weo) (loopAt wep 2) := ldMk (fun _ => rfl) fun _ _ => by kernel_rfl
theorem wado : (wgu).OK wen tt noZ (orcOf weo) (loopAt wep 6) := ldMk (fun _ => rfl) fun _ _ => by kernel_rfl
theorem wadp : (wgv).OK wen tt noZ (orcOf weo) (loopAt wep 8) := ldMk (fun _ => rfl) fun _ _ => by kernel_rfl
theorem wadq : (wgw).OK wen tt noZ (orcOf weo) (loopAt wep 4) := ldMk (fun _ => rfl) fun _ _ => by kernel_rfl
theorem warw : LoopsOK wen tt noZ weo wep := lpMk (by kernel_rfl) (lpC wadm (lpC wadn (lpC wado (lpC wadp (lpC wadq lpN)))))
theorem waic : FDok prog (258, wzm) := fn_ok mixed (env_ok (fdN)) tabOK (fnMk wzm wen waon noZ weo wep (fun x => wafh x.1.2.1 x.1.2.2.1 x.1.2.2.2.1 x.1.2.2.2.2.1 x.2.1) (fun r => ((r.1, (r.2.1, ())), (r.2.2, ()))) func258 warw fun _ => by kernel_rfl)
theorem wadr (rec_ : (Int) → (Int) → (Int) → (Yg) → Ye → Option Ye) : (wgx rec_).OK (wzp rec_) tt noZ (orcOf (wzq rec_)) (loopAt wzr 0) := ldMk (fun _ => rfl) fun _ _ => by kernel_rfl
theorem warx (rec_ : (Int) → (Int) → (Int) → (Yg) → Ye → Option Ye) : LoopsOK (wzp rec_) tt noZ (wzq rec_) wzr := lpMk (by kernel_rfl) (lpC (wadr rec_) lpN)
theorem wqw : ∀ n : Nat, FDok prog (233, wzo n)
 | 0 => fun _ _ h => nomatch h
 | n + 1 => fn_ok mixed (env_ok (fdC wahv (fdC wahy (fdC waib (fdC waic (fdC (wqw n) fdN)))))) tabOK (fnMk (wzo (n + 1)) (wzp (weq n)) waoo noZ (wzq (weq n)) wzr (fun x => wafi (weq n) x.1.2.1 x.1.2.2.1 x.1.2.2.2.1 x.1.2.2.2.2.1 x.2.1) (fun r => ((), (r, ()))) func233 (warx (weq n)) fun _ => by kernel_rfl)
theorem wqx : FDok prog (184, wpd) := fn_ok mixed (env_ok (fdC wqu (fdC (wqw 1000000) fdN))) tabOK (fnMk wpd (envOf [(234, wov), (233, wzo 1000000)]) waop noZ [] ((f184.body).getD .skip) (fun x => wafj x.1.2.1 x.2.1) (fun r => ((), (r, ()))) func184 (lpMk (by kernel_rfl) lpN) fun _ => by kernel_rfl)
theorem wary : FDok prog (231, D_zc) := fn_ok mixed (env_ok (fdN)) tabOK (fnMk D_zc (envOf []) K_zc noZ [] ((f231.body).getD .skip) (fun x => T_zc x.1.1) (fun r => ((r, ()), ())) func231 (lpMk (by kernel_rfl) lpN) fun _ => by kernel_rfl)
theorem waid : FDok prog (182, D_za) := fn_ok mixed (env_ok (fdC wary fdN)) tabOK (fnMk D_za (envOf [(231, D_zc)]) K_za noZ [] ((f182.body).getD .skip) (fun x => T_za x.1.1 x.1.2.1) (fun r => ((r, ()), ())) func182 (lpMk (by kernel_rfl) lpN) fun _ => by kernel_rfl)
theorem wads : (wgy).OK wzu tt noZ (orcOf wzv) (loopAt wzw 0) := ldMk (fun _ => rfl) fun _ _ => by kernel_rfl
theorem warz : LoopsOK wzu tt noZ wzv wzw := lpMk (by kernel_rfl) (lpC wads lpN)
theorem waie : FDok prog (235, wzt) := fn_ok mixed (env_ok (fdC waid fdN)) tabOK (fnMk wzt wzu waot noZ wzv wzw (fun x => wafl x.1.1 x.1.2.1) (fun r => ((r, ()), ())) func235 warz fun _ => by kernel_rfl)
theorem waif : (wly).OK E_zb tt noZ (orcOf O_zb) (loopAt C_zb 0) := ldMk (fun _ => rfl) fun _ _ => by kernel_rfl
theorem o_zb : LoopsOK E_zb tt noZ O_zb C_zb := lpMk (by kernel_rfl) (lpC waif lpN)
theorem wasa : FDok prog (181, D_zb) := fn_ok mixed (env_ok (fdN)) tabOK (fnMk D_zb E_zb K_zb noZ O_zb C_zb (fun x => T_zb x.1.1) (fun r => ((r, ()), ())) func181 o_zb fun _ => by kernel_rfl)
theorem waig : FDok prog (185, wzx) := fn_ok mixed (env_ok (fdC waid (fdC waie (fdC wasa fdN)))) tabOK (fnMk wzx (envOf [(182, D_za), (235, wzt), (181, D_zb)]) waoy noZ [] ((f185.body).getD .skip) (fun x => wafo x.1.1 x.1.2.1) (fun r => ((r, ()), ())) func185 (lpMk (by kernel_rfl) lpN) fun _ => by kernel_rfl)
theorem wadt : (wgz).OK waab tt waaa (orcOf waac) (loopAt waad 0) := ldMk (fun _ => rfl) fun _ _ => by kernel_rfl
theorem wasb : LoopsOK waab tt waaa waac waad := lpMk (by kernel_rfl) (lpC wadt lpN)
theorem waih : FDok prog (91, wzz) := fn_ok mixed (env_ok (fdC whh (fdC wqx (fdC wqx (fdC waig fdN))))) tabOK (fnMk wzz waab waoz waaa waac waad (fun x => wafq x.1.1) (fun r => (((), ()), (r, ()))) func91 wasb fun _ => by kernel_rfl)
theorem wadu : (wha).OK waaf tt noZ (orcOf waag) (loopAt waah 0) := ldMk (fun _ => rfl) fun _ _ => by kernel_rfl
theorem wasc : LoopsOK waaf tt noZ waag waah := lpMk (by kernel_rfl) (lpC wadu lpN)
theorem wqy : FDok prog (94, wpf) := fn_ok mixed (env_ok (fdN)) tabOK (fnMk wpf waaf wapa noZ waag waah (fun x => waae x.1.2.1 x.2.1) (fun r => (((), ()), (r, ()))) func94 wasc fun _ => by kernel_rfl)
theorem wasd : FDok prog (149, D_zf) := fn_ok mixed (env_ok (fdC wpn (fdC waih (fdC wqy (fdC wqy (fdC wpp fdN)))))) tabOK (fnMk D_zf (envOf [(157, D_zv), (91, wzz), (94, wpf), (94, wpf), (174, D_zt)]) K_zf noZ [] ((f149.body).getD .skip) (fun x => T_zf x.1.1.1 x.1.1.2.1) (fun r => (((), (r.1, ())), (r.2, ()))) func149 (lpMk (by kernel_rfl) lpN) fun _ => by kernel_rfl)
theorem l_zi : (wafs).OK E_zh tt Z_zh (orcOf O_zh) (loopAt C_zh 1) := ldMk (fun _ => rfl) fun _ _ => by kernel_rfl
theorem waii : (wmc).OK E_zh tt Z_zh (orcOf O_zh) (loopAt C_zh 3) := ldMk (fun _ => rfl) fun _ _ => by kernel_rfl
theorem waij : (wmd).OK E_zh tt Z_zh (orcOf O_zh) (loopAt C_zh 5) := ldMk (fun _ => rfl) fun _ _ => by kernel_rfl
theorem o_zh : LoopsOK E_zh tt Z_zh O_zh C_zh := lpMk (by kernel_rfl) (lpC l_zi (lpC waii (lpC waij lpN)))
theorem waik : FDok prog (45, D_zh) := fn_ok mixed (env_ok (fdC wpo (fdC warf (fdC wacg (fdC wml (fdC wcw (fdC warh (fdC wmm (fdC whh (fdC wqs (fdC whf (fdC wahi (fdC wahj (fdC wart (fdC wasd fdN))))))))))))))) tabOK (fnMk D_zh E_zh K_zh Z_zh O_zh C_zh (fun x => T_zh x.1.1.1 x.1.1.2.1 x.1.1.2.2.1 x.1.1.2.2.2.1 x.1.2.1.1 x.1.2.1.2.1 x.1.2.1.2.2.1 x.1.2.1.2.2.2.1 x.1.2.1.2.2.2.2.1) (fun r => ((((), ((), ((), (r.1, ())))), (r.2.1, ())), (r.2.2.1, (r.2.2.2.1, (r.2.2.2.2, ()))))) func45 o_zh fun _ => by kernel_rfl)
theorem wail : FDok prog (42, waaj) := fn_ok mixed (env_ok (fdC wcy (fdC wmk fdN))) tabOK (fnMk waaj (envOf [(135, wdl), (136, wks)]) wape noZ [] ((f42.body).getD .skip) (fun x => waai x.1.1.1 x.1.1.2.1 x.1.1.2.2.1 x.1.1.2.2.2.1 x.1.2.1.1 x.1.2.1.2.1 x.1.2.1.2.2.1 x.1.2.1.2.2.2.1 x.1.2.1.2.2.2.2.1) (fun r => ((((), ((), ((), (r.1, ())))), (r.2.1, ())), (r.2.2.1, (r.2.2.2.1, (r.2.2.2.2, ()))))) func42 (lpMk (by kernel_rfl) lpN) fun _ => by kernel_rfl)
theorem wadv : (whb).OK waan tt waam (orcOf waao) (loopAt waap 0) := ldMk (fun _ => rfl) fun _ _ => by kernel_rfl
theorem wase : LoopsOK waan tt waam waao waap := lpMk (by kernel_rfl) (lpC wadv lpN)
theorem waim : FDok prog (63, waal) := fn_ok mixed (env_ok (fdC wqq (fdC wac (fdC wmi fdN)))) tabOK (fnMk waal waan wapf waam waao waap (fun x => waak x.1.1) (fun r => (((r.1, (r.2.1, ((), (r.2.2.1, ())))), ((), ())), (r.2.2.2.1, (r.2.2.2.2, ())))) func63 wase fun _ => by kernel_rfl)
theorem wain : (wme).OK E_zg tt noZ (orcOf O_zg) (loopAt C_zg 0) := ldMk (fun _ => rfl) fun _ _ => by kernel_rfl
theorem o_zg : LoopsOK E_zg tt noZ O_zg C_zg := lpMk (by kernel_rfl) (lpC wain lpN)
theorem wasf : FDok prog (54, D_zg) := fn_ok mixed (env_ok (fdC wpo (fdC wacg (fdC waik fdN)))) tabOK (fnMk D_zg E_zg K_zg noZ O_zg C_zg (fun x => T_zg x.1.1.1 x.1.1.2.1 x.1.1.2.2.1 x.1.1.2.2.2.1 x.1.2.1) (fun r => ((((), ((), ((), (r.1, ())))), (r.2.1, (r.2.2.1, ()))), (r.2.2.2.1, (r.2.2.2.2.1, (r.2.2.2.2.2, ()))))) func54 o_zg fun _ => by kernel_rfl)
theorem wadw : (whc).OK waas tt noZ (orcOf waat) (loopAt waau 0) := ldMk (fun _ => rfl) fun _ _ => by kernel_rfl
theorem wasg : LoopsOK waas tt noZ waat waau := lpMk (by kernel_rfl) (lpC wadw lpN)
theorem waio : FDok prog (52, waar) := fn_ok mixed (env_ok (fdC wcy (fdC whg (fdC wmk fdN)))) tabOK (fnMk waar waas wapl noZ waat waau (fun x => waaq x.1.1.1 x.1.1.2.1 x.1.1.2.2.1 x.1.1.2.2.2.1 x.1.2.1) (fun r => (((r.1, (r.2.1, (r.2.2.1, (r.2.2.2.1, ())))), (r.2.2.2.2.1, (r.2.2.2.2.2, ()))), ())) func52 wasg fun _ => by kernel_rfl)
theorem wadx : (whd).OK waaw tt noZ (orcOf waax) (loopAt waay 0) := ldMk (fun _ => rfl) fun _ _ => by kernel_rfl
theorem wash : LoopsOK waaw tt noZ waax waay := lpMk (by kernel_rfl) (lpC wadx lpN)
theorem whj : FDok prog (69, wic) := fn_ok mixed (env_ok (fdN)) tabOK (fnMk wic waaw wapm noZ waax waay (fun x => waav x.1.1 x.1.2.1) (fun r => ((r, ()), ())) func69 wash fun _ => by kernel_rfl)
theorem wady : (whe).OK wabb tt noZ (orcOf wabc) (loopAt wabd 0) := ldMk (fun _ => rfl) fun _ _ => by kernel_rfl
theorem wasi : LoopsOK wabb tt noZ wabc wabd := lpMk (by kernel_rfl) (lpC wady lpN)
theorem waip : FDok prog (160, waba) := fn_ok mixed (env_ok (fdC whj fdN)) tabOK (fnMk waba wabb wapn noZ wabc wabd (fun x => waaz x.1.1 x.1.2.1) (fun r => ((r, ()), ())) func160 wasi fun _ => by kernel_rfl)
theorem wqz : FDok prog (68, wpk) := fn_ok mixed (env_ok (fdC whj (fdC waip fdN))) tabOK (fnMk wpk (envOf [(69, wic), (160, waba)]) wapo noZ [] ((f68.body).getD .skip) (fun x => wabe x.1.1.1 x.1.1.2.1 x.1.2.1.1 x.1.2.1.2.1) (fun r => ((r, ()), ())) func68 (lpMk (by kernel_rfl) lpN) fun _ => by kernel_rfl)
theorem waiq : FDok prog (64, wabg) := fn_ok mixed (env_ok (fdC wqz (fdC whj fdN))) tabOK (fnMk wabg (envOf [(68, wpk), (69, wic)]) wapp noZ [] ((f64.body).getD .skip) (fun x => wabf x.1.1.1 x.1.1.2.1 x.1.1.2.2.1 x.1.1.2.2.2.1 x.1.2.1.1 x.1.2.1.2.1 x.1.2.1.2.2.1 x.1.2.1.2.2.2.1) (fun r => ((r, ()), ())) func64 (lpMk (by kernel_rfl) lpN) fun _ => by kernel_rfl)
theorem wair : FDok prog (66, wabi) := fn_ok mixed (env_ok (fdC wcy fdN)) tabOK (fnMk wabi (envOf [(135, wdl)]) wapq noZ [] ((f66.body).getD .skip) (fun x => wabh x.1.1.1 x.1.1.2.1 x.1.1.2.2.1 x.1.1.2.2.2.1) (fun r => ((r, ()), ())) func66 (lpMk (by kernel_rfl) lpN) fun _ => by kernel_rfl)
theorem wasj : FDok prog (80, D_zz) := fn_ok mixed (env_ok (fdC wqt (fdC wpp fdN))) tabOK (fnMk D_zz (envOf [(99, wot), (174, D_zt)]) K_zz noZ [] ((f80.body).getD .skip) (fun x => T_zz x.1.1.1 x.1.1.2.1 x.1.2.1) (fun r => ((r.1, (r.2, ())), ())) func80 (lpMk (by kernel_rfl) lpN) fun _ => by kernel_rfl)
theorem wask : FDok prog (67, D_zd) := fn_ok mixed (env_ok (fdC wpo (fdC wasj fdN))) tabOK (fnMk D_zd (envOf [(65, D_zu), (80, D_zz)]) K_zd noZ [] ((f67.body).getD .skip) (fun x => T_zd x.1.1.1 x.1.1.2.1 x.1.1.2.2.1 x.1.1.2.2.2.1) (fun r => ((r.1, (r.2, ())), ())) func67 (lpMk (by kernel_rfl) lpN) fun _ => by kernel_rfl)
theorem wais : FDok prog (7, wabl) := fn_ok mixed (env_ok (fdC wafx (fdC wagf (fdC waqi (fdC wagm (fdC wagn (fdC wahg (fdC waik (fdC wail (fdC waim (fdC wasf (fdC waio (fdC waiq (fdC wpo (fdC wair (fdC wask (fdC wqz (fdC whj fdN)))))))))))))))))) tabOK (fnMk wabl (envOf [(57, wrc), (58, wsg), (59, D_zy), (60, wue), (62, wug), (61, wxv), (45, D_zh), (42, waaj), (63, waal), (54, D_zg), (52, waar), (64, wabg), (65, D_zu), (66, wabi), (67, D_zd), (68, wpk), (69, wic)]) wapw wapx [] ((f7.body).getD .skip) (fun x => wabj x.1.1) (fun r => ((r, ()), ())) func7 (lpMk (by kernel_rfl) lpN) fun _ => by kernel_rfl)
end Go.Proofs.YtnagpmhaddfgmaaGreat
