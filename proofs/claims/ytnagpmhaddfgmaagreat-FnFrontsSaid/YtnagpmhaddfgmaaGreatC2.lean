/-
 The evaluator hands back, for the code of each function that the claim reaches, what its typed function says. No conditions.
-/
import Derived.Test.YtnagpmhaddfgmaaGreatC1
namespace Go.Proofs.YtnagpmhaddfgmaaGreat
open Go.Proofs.Tryz
open List (length getD set)
open Int (toNat)
open IntKind (wrap)
theorem mixed : prog.follows .mixedOrders = true := by kernel_rfl
theorem tabOK : TabOK prog tt := tab_ok (by kernel_rfl)
theorem wanx : FDok prog (9, wabs) := fn_ok mixed (env_ok (fdN)) tabOK (fnMk wabs (envOf []) wata noZ [] ((f9.body).getD .skip) (fun x => wabq x.1.1) (fun r => ((r, ()), ())) func9 (lpMk (by kernel_rfl) lpN) fun _ => by kernel_rfl)
theorem wany : FDok prog (202, wabu) := fn_ok mixed (env_ok (fdN)) tabOK (fnMk wabu (envOf []) watb noZ [] ((f202.body).getD .skip) (fun x => wabt x.2.1.1 x.2.1.2.1 x.2.1.2.2.1) (fun r => ((r.1, ()), ((r.2.1, (r.2.2.1, (r.2.2.2, ()))), ()))) func202 (lpMk (by kernel_rfl) lpN) fun _ => by kernel_rfl)
theorem wcm : FDok prog (120, wfb) := fn_ok mixed (env_ok (fdC wany fdN)) tabOK (fnMk wfb (envOf [(202, wabu)]) watc noZ [] ((f120.body).getD .skip) (fun x => wabv x.1.2.1 x.2.1.1 x.2.1.2.1 x.2.1.2.2.1) (fun r => ((r.1, ()), ((r.2.1, (r.2.2.1, (r.2.2.2, ()))), ()))) func120 (lpMk (by kernel_rfl) lpN) fun _ => by kernel_rfl)
theorem wfe : FDok prog (83, whx) := fn_ok mixed (env_ok (fdC wcm fdN)) tabOK (fnMk whx (envOf [(120, wfb)]) watd noZ [] ((f83.body).getD .skip) (fun x => wabw x.1.2.1 x.2.1.1 x.2.1.2.1 x.2.1.2.2.1) (fun r => ((r.1, ()), ((r.2.1, (r.2.2.1, (r.2.2.2, ()))), ()))) func83 (lpMk (by kernel_rfl) lpN) fun _ => by kernel_rfl)
theorem wajn : (wky).OK wpm tt wpk (orcOf wpn) (loopAt wpo 0) := ldMk (fun _ => rfl) fun _ _ => by kernel_rfl
theorem wajo : (wkz).OK wpm tt wpk (orcOf wpn) (loopAt wpo 4) := ldMk (fun _ => rfl) fun _ _ => by kernel_rfl
theorem wajp : (wla).OK wpm tt wpk (orcOf wpn) (loopAt wpo 2) := ldMk (fun _ => rfl) fun _ _ => by kernel_rfl
theorem wayt : LoopsOK wpm tt wpk wpn wpo := lpMk (by kernel_rfl) (lpC wajn (lpC wajo (lpC wajp lpN)))
theorem waai : FDok prog (176, wuo) := fn_ok mixed (env_ok (fdC wfe (fdC wcm fdN))) tabOK (fnMk wuo wpm wate wpk wpn wpo (fun x => wabx x.1.2.1 x.2.1.1 x.2.1.2.1 x.2.1.2.2.1) (fun r => ((((), ((), ())), ()), (r.1, (r.2.1, ((r.2.2.1, (r.2.2.2.1, (r.2.2.2.2, ()))), ()))))) func176 wayt fun _ => by kernel_rfl)
theorem waaj : FDok prog (173, wup) := fn_ok mixed (env_ok (fdN)) tabOK (fnMk wup (envOf []) watf noZ [] ((f173.body).getD .skip) (fun x => waby x.1.1) (fun r => (((), ()), (r, ()))) func173 (lpMk (by kernel_rfl) lpN) fun _ => by kernel_rfl)
theorem wajq : (wlb).OK wacc tt wacb (orcOf wacd) (loopAt wace 1) := ldMk (fun _ => rfl) fun _ _ => by kernel_rfl
theorem wayu : LoopsOK wacc tt wacb wacd wace := lpMk (by kernel_rfl) (lpC wajq lpN)
theorem wanz : FDok prog (175, waca) := fn_ok mixed (env_ok (fdC wcm (fdC wfe (fdC waaj fdN)))) tabOK (fnMk waca wacc watg wacb wacd wace (fun x => wabz x.2.1.1 x.2.1.2.1 x.2.1.2.2.1 x.2.2.1 x.2.2.2.1) (fun r => ((((), ((), ())), ()), (r.1, (r.2.1, ((r.2.2.1, (r.2.2.2.1, (r.2.2.2.2, ()))), ()))))) func175 wayu fun _ => by kernel_rfl)
theorem waak : FDok prog (197, wuq) := fn_ok mixed (env_ok (fdN)) tabOK (fnMk wuq (envOf []) wath noZ [] ((f197.body).getD .skip) (fun x => wacf x.1.1 x.1.2.1) (fun r => ((r, ()), ())) func197 (lpMk (by kernel_rfl) lpN) fun _ => by kernel_rfl)
theorem wajr : (wlc).OK wpu tt noZ (orcOf wpv) (loopAt wpw 0) := ldMk (fun _ => rfl) fun _ _ => by kernel_rfl
theorem wajs : (wle).OK wpu tt noZ (orcOf wpv) (loopAt wpw 4) := ldMk (fun _ => rfl) fun _ _ => by kernel_rfl
theorem wajt : (wlf).OK wpu tt noZ (orcOf wpv) (loopAt wpw 2) := ldMk (fun _ => rfl) fun _ _ => by kernel_rfl
theorem wayv : LoopsOK wpu tt noZ wpv wpw := lpMk (by kernel_rfl) (lpC wajr (lpC wajs (lpC wajt lpN)))
theorem waoa : FDok prog (177, wach) := fn_ok mixed (env_ok (fdC waai (fdC wcm (fdC waak fdN)))) tabOK (fnMk wach wpu wati noZ wpv wpw (fun x => wacg x.1.2.1 x.2.1.1 x.2.1.2.1 x.2.1.2.2.1) (fun r => ((((), ((), ())), ()), (r.1, (r.2.1, ((r.2.2.1, (r.2.2.2.1, (r.2.2.2.2, ()))), ()))))) func177 wayv fun _ => by kernel_rfl)
theorem waju : (wlg).OK wack tt noZ (orcOf wacl) (loopAt wacm 0) := ldMk (fun _ => rfl) fun _ _ => by kernel_rfl
theorem wayw : LoopsOK wack tt noZ wacl wacm := lpMk (by kernel_rfl) (lpC waju lpN)
theorem waob : FDok prog (228, wacj) := fn_ok mixed (env_ok (fdC waaj fdN)) tabOK (fnMk wacj wack watj noZ wacl wacm (fun x => waci x.1.1.1 x.1.1.2.1) (fun r => ((((), ((), ())), ()), (r.1, (r.2, ())))) func228 wayw fun _ => by kernel_rfl)
theorem wajv : (wlh).OK woh tt noZ (orcOf woi) (loopAt woj 6) := ldMk (fun _ => rfl) fun _ _ => by kernel_rfl
theorem wajw : (wli).OK woh tt noZ (orcOf woi) (loopAt woj 4) := ldMk (fun _ => rfl) fun _ _ => by kernel_rfl
theorem wajx : (wlj).OK woh tt noZ (orcOf woi) (loopAt woj 2) := ldMk (fun _ => rfl) fun _ _ => by kernel_rfl
theorem wajy : (wlk).OK woh tt noZ (orcOf woi) (loopAt woj 0) := ldMk (fun _ => rfl) fun _ _ => by kernel_rfl
theorem wayx : LoopsOK woh tt noZ woi woj := lpMk (by kernel_rfl) (lpC wajv (lpC wajw (lpC wajx (lpC wajy lpN))))
theorem waoc : FDok prog (229, waco) := fn_ok mixed (env_ok (fdN)) tabOK (fnMk waco woh watk noZ woi woj (fun x => wacn x.1.1.1 x.1.1.2.1) (fun r => ((r, ()), ())) func229 wayx fun _ => by kernel_rfl)
theorem waal : FDok prog (194, wuu) := fn_ok mixed (env_ok (fdN)) tabOK (fnMk wuu (envOf []) watl noZ [] ((f194.body).getD .skip) (fun x => wacp x.1.1 x.1.2.1) (fun r => ((r, ()), ())) func194 (lpMk (by kernel_rfl) lpN) fun _ => by kernel_rfl)
theorem wajz : (wll).OK wjg tt noZ (orcOf wjh) (loopAt wji 8) := ldMk (fun _ => rfl) fun _ _ => by kernel_rfl
theorem waka : (wlm).OK wjg tt noZ (orcOf wjh) (loopAt wji 6) := ldMk (fun _ => rfl) fun _ _ => by kernel_rfl
theorem wakb : (wln).OK wjg tt noZ (orcOf wjh) (loopAt wji 4) := ldMk (fun _ => rfl) fun _ _ => by kernel_rfl
theorem wakc : (wlp).OK wjg tt noZ (orcOf wjh) (loopAt wji 2) := ldMk (fun _ => rfl) fun _ _ => by kernel_rfl
theorem wakd : (wlq).OK wjg tt noZ (orcOf wjh) (loopAt wji 0) := ldMk (fun _ => rfl) fun _ _ => by kernel_rfl
theorem wayy : LoopsOK wjg tt noZ wjh wji := lpMk (by kernel_rfl) (lpC wajz (lpC waka (lpC wakb (lpC wakc (lpC wakd lpN)))))
theorem waod : FDok prog (178, wacr) := fn_ok mixed (env_ok (fdC waob (fdC waoc (fdC waal fdN)))) tabOK (fnMk wacr wjg watm noZ wjh wji (fun x => wacq x.1.1.1 x.1.1.2.1) (fun r => ((((), ((), ())), ()), (r.1, (r.2, ())))) func178 wayy fun _ => by kernel_rfl)
theorem waam : FDok prog (82, wuw) := fn_ok mixed (env_ok (fdC wcm (fdC waai (fdC wanz (fdC waoa (fdC waod fdN)))))) tabOK (fnMk wuw (envOf [(120, wfb), (176, wuo), (175, waca), (177, wach), (178, wacr)]) watn noZ [] ((f82.body).getD .skip) (fun x => wacs x.1.2.1 x.2.1.1 x.2.1.2.1 x.2.1.2.2.1) (fun r => ((((), ((), ())), ()), (r.1, (r.2.1, ((r.2.2.1, (r.2.2.2.1, (r.2.2.2.2, ()))), ()))))) func82 (lpMk (by kernel_rfl) lpN) fun _ => by kernel_rfl)
theorem waan : FDok prog (121, wux) := fn_ok mixed (env_ok (fdC wcm fdN)) tabOK (fnMk wux (envOf [(120, wfb)]) wato noZ [] ((f121.body).getD .skip) (fun x => wact x.1.2.1 x.2.1.1 x.2.1.2.1 x.2.1.2.2.1) (fun r => ((r.1, ()), ((r.2.1, (r.2.2.1, (r.2.2.2, ()))), ()))) func121 (lpMk (by kernel_rfl) lpN) fun _ => by kernel_rfl)
theorem wsh : FDok prog (84, wqi) := fn_ok mixed (env_ok (fdC waan (fdC wfe (fdC wcm fdN)))) tabOK (fnMk wqi (envOf [(121, wux), (83, whx), (120, wfb)]) watp watq [] ((f84.body).getD .skip) (fun x => wacu x.2.1.1 x.2.1.2.1 x.2.1.2.2.1) (fun r => ((r.1, ()), ((r.2.1, (r.2.2.1, (r.2.2.2, ()))), ()))) func84 (lpMk (by kernel_rfl) lpN) fun _ => by kernel_rfl)
theorem waoe : FDok prog (10, wacw) := fn_ok mixed (env_ok (fdC wfe (fdC waam (fdC wsh fdN)))) tabOK (fnMk wacw (envOf [(83, whx), (82, wuw), (84, wqi)]) watr wats [] ((f10.body).getD .skip) (fun x => wacv x.1.1) (fun r => ((((), ((), ())), (r.1, (r.2.1, ()))), (r.2.2.1, (r.2.2.2, ())))) func10 (lpMk (by kernel_rfl) lpN) fun _ => by kernel_rfl)
theorem wnv : FDok prog (104, wok) := fn_ok mixed (env_ok (fdN)) tabOK (fnMk wok (envOf []) watt noZ [] ((f104.body).getD .skip) (fun x => wacx x.1.1 x.1.2.1 x.1.2.2.1) (fun r => ((r, ()), ())) func104 (lpMk (by kernel_rfl) lpN) fun _ => by kernel_rfl)
theorem wakf : (wlr).OK wada tt noZ (orcOf wadb) (loopAt wadc 0) := ldMk (fun _ => rfl) fun _ _ => by kernel_rfl
theorem wayz : LoopsOK wada tt noZ wadb wadc := lpMk (by kernel_rfl) (lpC wakf lpN)
theorem waof : FDok prog (206, wacz) := fn_ok mixed (env_ok (fdN)) tabOK (fnMk wacz wada watu noZ wadb wadc (fun x => wacy x.1.1 x.1.2.1) (fun r => ((r, ()), ())) func206 wayz fun _ => by kernel_rfl)
theorem waao : FDok prog (126, wvb) := fn_ok mixed (env_ok (fdC waof fdN)) tabOK (fnMk wvb (envOf [(206, wacz)]) watv noZ [] ((f126.body).getD .skip) (fun x => wadd x.1.1 x.1.2.1) (fun r => ((r, ()), ())) func126 (lpMk (by kernel_rfl) lpN) fun _ => by kernel_rfl)
theorem waza : FDok prog (201, D_zx) := fn_ok mixed (env_ok (fdC wnv fdN)) tabOK (fnMk D_zx (envOf [(104, wok)]) K_zx noZ [] ((f201.body).getD .skip) (fun x => T_zx x.1.1 x.1.2.1.1 x.1.2.2.1.1) (fun r => ((r, ()), ())) func201 (lpMk (by kernel_rfl) lpN) fun _ => by kernel_rfl)
theorem waog : FDok prog (116, D_zw) := fn_ok mixed (env_ok (fdC waao (fdC waao (fdC waza fdN)))) tabOK (fnMk D_zw (envOf [(126, wvb), (126, wvb), (201, D_zx)]) K_zw noZ [] ((f116.body).getD .skip) (fun x => T_zw x.1.1 x.1.2.1 x.1.2.2.1) (fun r => ((r, ()), ())) func116 (lpMk (by kernel_rfl) lpN) fun _ => by kernel_rfl)
theorem wakg : (wls).OK wadf tt noZ (orcOf wadg) (loopAt wadh 0) := ldMk (fun _ => rfl) fun _ _ => by kernel_rfl
theorem wazb : LoopsOK wadf tt noZ wadg wadh := lpMk (by kernel_rfl) (lpC wakg lpN)
theorem waap : FDok prog (131, wvc) := fn_ok mixed (env_ok (fdN)) tabOK (fnMk wvc wadf waua noZ wadg wadh (fun x => wade x.1.1 x.1.2.1) (fun r => ((r, ()), ())) func131 wazb fun _ => by kernel_rfl)
theorem waaq : FDok prog (218, wve) := fn_ok mixed (env_ok (fdC waap fdN)) tabOK (fnMk wve (envOf [(131, wvc)]) waub noZ [] ((f218.body).getD .skip) (fun x => wadi x.1.1 x.1.2.1) (fun r => ((r, ()), ())) func218 (lpMk (by kernel_rfl) lpN) fun _ => by kernel_rfl)
theorem wazc : FDok prog (219, D_zu) := fn_ok mixed (env_ok (fdC waog fdN)) tabOK (fnMk D_zu (envOf [(116, D_zw)]) K_zu noZ [] ((f219.body).getD .skip) (fun x => T_zu x.1.1 x.1.2.1.1 x.1.2.1.2.1) (fun r => ((r, ()), ())) func219 (lpMk (by kernel_rfl) lpN) fun _ => by kernel_rfl)
theorem waoh : FDok prog (157, D_zt) := fn_ok mixed (env_ok (fdC wnv (fdC waog (fdC waaq (fdC waaq (fdC wazc fdN)))))) tabOK (fnMk D_zt (envOf [(104, wok), (116, D_zw), (218, wve), (218, wve), (219, D_zu)]) K_zt noZ [] ((f157.body).getD .skip) (fun x => T_zt x.1.1.1 x.1.1.2.1) (fun r => ((r, ()), ())) func157 (lpMk (by kernel_rfl) lpN) fun _ => by kernel_rfl)
theorem waar : FDok prog (100, wvg) := fn_ok mixed (env_ok (fdC wnv fdN)) tabOK (fnMk wvg (envOf [(104, wok)]) wauf noZ [] ((f100.body).getD .skip) (fun x => wvf x.1.1) (fun r => ((r, ()), ())) func100 (lpMk (by kernel_rfl) lpN) fun _ => by kernel_rfl)
theorem wsi : FDok prog (85, wqm) := fn_ok mixed (env_ok (fdC waoh (fdC waar fdN))) tabOK (fnMk wqm (envOf [(157, D_zt), (100, wvg)]) waug noZ [] ((f85.body).getD .skip) (fun x => wadj x.1.1.1 x.1.1.2.1 x.1.2.1 x.1.2.2.1) (fun r => ((r, ()), ())) func85 (lpMk (by kernel_rfl) lpN) fun _ => by kernel_rfl)
theorem wazd : FDok prog (143, D_zy) := fn_ok mixed (env_ok (fdN)) tabOK (fnMk D_zy (envOf []) K_zy noZ [] ((f143.body).getD .skip) (fun x => T_zy x.1.1 x.1.2.1) (fun r => ((r, ()), ())) func143 (lpMk (by kernel_rfl) lpN) fun _ => by kernel_rfl)
theorem waoi : (wqo).OK E_zz tt noZ (orcOf O_zz) (loopAt C_zz 0) := ldMk (fun _ => rfl) fun _ _ => by kernel_rfl
theorem o_zz : LoopsOK E_zz tt noZ O_zz C_zz := lpMk (by kernel_rfl) (lpC waoi lpN)
theorem waze : FDok prog (144, D_zz) := fn_ok mixed (env_ok (fdC wazd fdN)) tabOK (fnMk D_zz E_zz K_zz noZ O_zz C_zz (fun x => T_zz x.1.1) (fun r => (((), ()), (r, ()))) func144 o_zz fun _ => by kernel_rfl)
theorem waoj : FDok prog (260, wadk) := fn_ok mixed (env_ok (fdN)) tabOK (fnMk wadk (envOf []) waum noZ [] ((f260.body).getD .skip) (fun x => wvh x.1.1) (fun r => ((r, ()), ())) func260 (lpMk (by kernel_rfl) lpN) fun _ => by kernel_rfl)
theorem waas : FDok prog (234, wvk) := fn_ok mixed (env_ok (fdC waoj fdN)) tabOK (fnMk wvk (envOf [(260, wadk)]) waun noZ [] ((f234.body).getD .skip) (fun x => wvj x.1.1) (fun r => ((r, ()), ())) func234 (lpMk (by kernel_rfl) lpN) fun _ => by kernel_rfl)
theorem wakh : (wlu).OK wvn tt noZ (orcOf wvo) (loopAt wvp 2) := ldMk (fun _ => rfl) fun _ _ => by kernel_rfl
theorem waki : (wlv).OK wvn tt noZ (orcOf wvo) (loopAt wvp 0) := ldMk (fun _ => rfl) fun _ _ => by kernel_rfl
theorem wazf : LoopsOK wvn tt noZ wvo wvp := lpMk (by kernel_rfl) (lpC wakh (lpC waki lpN))
theorem waok : FDok prog (251, wadl) := fn_ok mixed (env_ok (fdN)) tabOK (fnMk wadl wvn wauo noZ wvo wvp (fun x => wvl x.1.2.1 x.1.2.2.1 x.1.2.2.2.1 x.2.1) (fun r => ((), (r, ()))) func251 wazf fun _ => by kernel_rfl)
theorem waol : FDok prog (270, wadm) := fn_ok mixed (env_ok (fdC waas fdN)) tabOK (fnMk wadm (envOf [(234, wvk)]) waup noZ [] ((f270.body).getD .skip) (fun x => wvq x.1.1) (fun r => ((r, ()), ())) func270 (lpMk (by kernel_rfl) lpN) fun _ => by kernel_rfl)
theorem waom : FDok prog (271, wadn) := fn_ok mixed (env_ok (fdN)) tabOK (fnMk wadn (envOf []) wauq noZ [] ((f271.body).getD .skip) (fun x => wvs x.2.1.1) (fun r => ((r.1, ()), ((r.2, ()), ()))) func271 (lpMk (by kernel_rfl) lpN) fun _ => by kernel_rfl)
theorem wakj : (wlw).OK wadp tt noZ (orcOf wadq) (loopAt wadr 0) := ldMk (fun _ => rfl) fun _ _ => by kernel_rfl
theorem wazg : LoopsOK wadp tt noZ wadq wadr := lpMk (by kernel_rfl) (lpC wakj lpN)
theorem waon : FDok prog (253, wado) := fn_ok mixed (env_ok (fdC waol (fdC waom fdN))) tabOK (fnMk wado wadp waur noZ wadq wadr (fun x => wvu x.1.2.1 x.1.2.2.1 x.1.2.2.2.1 x.2.1) (fun r => ((), (r, ()))) func253 wazg fun _ => by kernel_rfl)
theorem waoo : FDok prog (286, wads) := fn_ok mixed (env_ok (fdN)) tabOK (fnMk wads (envOf []) waus noZ [] ((f286.body).getD .skip) (fun x => wvw x.1.1 x.1.2.1 x.1.2.2.1 x.1.2.2.2.2.1 x.2.1.1) (fun r => ((r.1, (r.2.1, ())), ((r.2.2, ()), ()))) func286 (lpMk (by kernel_rfl) lpN) fun _ => by kernel_rfl)
theorem waat : FDok prog (273, wvy) := fn_ok mixed (env_ok (fdC waoo fdN)) tabOK (fnMk wvy (envOf [(286, wads)]) waut noZ [] ((f273.body).getD .skip) (fun x => wvx x.1.1 x.1.2.1 x.1.2.2.1 x.1.2.2.2.1 x.1.2.2.2.2.2.1 x.2.1.1) (fun r => ((r.1, ()), ((r.2, ()), ()))) func273 (lpMk (by kernel_rfl) lpN) fun _ => by kernel_rfl)
theorem waop : FDok prog (272, wadt) := fn_ok mixed (env_ok (fdC waat fdN)) tabOK (fnMk wadt (envOf [(273, wvy)]) wauu noZ [] ((f272.body).getD .skip) (fun x => wvz x.1.1 x.1.2.1 x.1.2.2.2.1 x.2.1.1) (fun r => ((r.1, ()), ((r.2, ()), ()))) func272 (lpMk (by kernel_rfl) lpN) fun _ => by kernel_rfl)
theorem waoq : FDok prog (254, wadu) := fn_ok mixed (env_ok (fdC waop (fdC waat fdN))) tabOK (fnMk wadu (envOf [(272, wadt), (273, wvy)]) wauv noZ [] ((f254.body).getD .skip) (fun x => wwa x.1.1 x.1.2.1 x.1.2.2.1 x.1.2.2.2.1) (fun r => ((r.1, (r.2, ())), ())) func254 (lpMk (by kernel_rfl) lpN) fun _ => by kernel_rfl)
theorem wakk : (wlx).OK wjs tt noZ (orcOf wjt) (loopAt wju 0) := ldMk (fun _ => rfl) fun _ _ => by kernel_rfl
theorem wakl : (wly).OK wjs tt noZ (orcOf wjt) (loopAt wju 2) := ldMk (fun _ => rfl) fun _ _ => by kernel_rfl
theorem wakm : (wlz).OK wjs tt noZ (orcOf wjt) (loopAt wju 6) := ldMk (fun _ => rfl) fun _ _ => by kernel_rfl
theorem wakn : (wma).OK wjs tt noZ (orcOf wjt) (loopAt wju 8) := ldMk (fun _ => rfl) fun _ _ => by kernel_rfl
theorem wako : (wmb).OK wjs tt noZ (orcOf wjt) (loopAt wju 4) := ldMk (fun _ => rfl) fun _ _ => by kernel_rfl
theorem wazh : LoopsOK wjs tt noZ wjt wju := lpMk (by kernel_rfl) (lpC wakk (lpC wakl (lpC wakm (lpC wakn (lpC wako lpN)))))
theorem waor : FDok prog (258, wadv) := fn_ok mixed (env_ok (fdN)) tabOK (fnMk wadv wjs wauw noZ wjt wju (fun x => wwb x.1.2.1 x.1.2.2.1 x.1.2.2.2.1 x.1.2.2.2.2.1 x.2.1) (fun r => ((r.1, (r.2.1, ())), (r.2.2, ()))) func258 wazh fun _ => by kernel_rfl)
theorem wakp (rec_ : (Int) → (Int) → (Int) → (Yd) → Y2 → Option Y2) : (wmc rec_).OK (wadx rec_) tt noZ (orcOf (wady rec_)) (loopAt wadz 0) := ldMk (fun _ => rfl) fun _ _ => by kernel_rfl
theorem wazi (rec_ : (Int) → (Int) → (Int) → (Yd) → Y2 → Option Y2) : LoopsOK (wadx rec_) tt noZ (wady rec_) wadz := lpMk (by kernel_rfl) (lpC (wakp rec_) lpN)
theorem waau : ∀ n : Nat, FDok prog (233, wadw n)
 | 0 => fun _ _ h => nomatch h
 | n + 1 => fn_ok mixed (env_ok (fdC waok (fdC waon (fdC waoq (fdC waor (fdC (waau n) fdN)))))) tabOK (fnMk (wadw (n + 1)) (wadx (wfw n)) waux noZ (wady (wfw n)) wadz (fun x => wwc (wfw n) x.1.2.1 x.1.2.2.1 x.1.2.2.2.1 x.1.2.2.2.2.1 x.2.1) (fun r => ((), (r, ()))) func233 (wazi (wfw n)) fun _ => by kernel_rfl)
theorem waav : FDok prog (184, wwg) := fn_ok mixed (env_ok (fdC waas (fdC (waau 1000000) fdN))) tabOK (fnMk wwg (envOf [(234, wvk), (233, wadw 1000000)]) wauy noZ [] ((f184.body).getD .skip) (fun x => wwe x.1.2.1 x.2.1) (fun r => ((), (r, ()))) func184 (lpMk (by kernel_rfl) lpN) fun _ => by kernel_rfl)
theorem wazj : FDok prog (231, D_zc) := fn_ok mixed (env_ok (fdN)) tabOK (fnMk D_zc (envOf []) K_zc noZ [] ((f231.body).getD .skip) (fun x => T_zc x.1.1) (fun r => ((r, ()), ())) func231 (lpMk (by kernel_rfl) lpN) fun _ => by kernel_rfl)
theorem wakq : FDok prog (182, D_za) := fn_ok mixed (env_ok (fdC wazj fdN)) tabOK (fnMk D_za (envOf [(231, D_zc)]) K_za noZ [] ((f182.body).getD .skip) (fun x => T_za x.1.1 x.1.2.1) (fun r => ((r, ()), ())) func182 (lpMk (by kernel_rfl) lpN) fun _ => by kernel_rfl)
theorem wakr : (wmd).OK waec tt noZ (orcOf waed) (loopAt waee 0) := ldMk (fun _ => rfl) fun _ _ => by kernel_rfl
theorem wazk : LoopsOK waec tt noZ waed waee := lpMk (by kernel_rfl) (lpC wakr lpN)
theorem waos : FDok prog (235, waeb) := fn_ok mixed (env_ok (fdC wakq fdN)) tabOK (fnMk waeb waec wava noZ waed waee (fun x => wwi x.1.1 x.1.2.1) (fun r => ((r, ()), ())) func235 wazk fun _ => by kernel_rfl)
theorem waot : (wqr).OK E_zb tt noZ (orcOf O_zb) (loopAt C_zb 0) := ldMk (fun _ => rfl) fun _ _ => by kernel_rfl
theorem o_zb : LoopsOK E_zb tt noZ O_zb C_zb := lpMk (by kernel_rfl) (lpC waot lpN)
theorem waou : FDok prog (181, D_zb) := fn_ok mixed (env_ok (fdN)) tabOK (fnMk D_zb E_zb K_zb noZ O_zb C_zb (fun x => T_zb x.1.1) (fun r => ((r, ()), ())) func181 o_zb fun _ => by kernel_rfl)
theorem waov : FDok prog (185, waeg) := fn_ok mixed (env_ok (fdC wakq (fdC waos (fdC waou fdN)))) tabOK (fnMk waeg (envOf [(182, D_za), (235, waeb), (181, D_zb)]) wave noZ [] ((f185.body).getD .skip) (fun x => wwk x.1.1 x.1.2.1) (fun r => ((r, ()), ())) func185 (lpMk (by kernel_rfl) lpN) fun _ => by kernel_rfl)
theorem waks : (wmf).OK waei tt waeh (orcOf waej) (loopAt waek 0) := ldMk (fun _ => rfl) fun _ _ => by kernel_rfl
theorem wazl : LoopsOK waei tt waeh waej waek := lpMk (by kernel_rfl) (lpC waks lpN)
theorem waaw : FDok prog (91, wwn) := fn_ok mixed (env_ok (fdC waze (fdC waav (fdC waav (fdC waov fdN))))) tabOK (fnMk wwn waei wavf waeh waej waek (fun x => wwm x.1.1) (fun r => (((), ()), (r, ()))) func91 wazl fun _ => by kernel_rfl)
theorem waow : (wqs).OK E_zn tt noZ (orcOf O_zn) (loopAt C_zn 0) := ldMk (fun _ => rfl) fun _ _ => by kernel_rfl
theorem o_zn : LoopsOK E_zn tt noZ O_zn C_zn := lpMk (by kernel_rfl) (lpC waow lpN)
theorem wazm : FDok prog (274, D_zn) := fn_ok mixed (env_ok (fdN)) tabOK (fnMk D_zn E_zn K_zn noZ O_zn C_zn (fun x => T_zn x.1.1.1 x.1.1.2.1 x.1.2.1 x.1.2.2.1) (fun r => ((r, ()), ())) func274 o_zn fun _ => by kernel_rfl)
theorem waox : (wqt).OK E_zm tt noZ (orcOf O_zm) (loopAt C_zm 0) := ldMk (fun _ => rfl) fun _ _ => by kernel_rfl
theorem o_zm : LoopsOK E_zm tt noZ O_zm C_zm := lpMk (by kernel_rfl) (lpC waox lpN)
theorem wazn : FDok prog (261, D_zm) := fn_ok mixed (env_ok (fdC wazm fdN)) tabOK (fnMk D_zm E_zm K_zm noZ O_zm C_zm (fun x => T_zm x.1.1.1 x.1.1.2.1 x.1.2.1) (fun r => (((), ()), (r, ()))) func261 o_zm fun _ => by kernel_rfl)
theorem waoy : (wqu).OK E_zj tt noZ (orcOf O_zj) (loopAt C_zj 0) := ldMk (fun _ => rfl) fun _ _ => by kernel_rfl
theorem o_zj : LoopsOK E_zj tt noZ O_zj C_zj := lpMk (by kernel_rfl) (lpC waoy lpN)
theorem waoz : FDok prog (237, D_zj) := fn_ok mixed (env_ok (fdC wazn fdN)) tabOK (fnMk D_zj E_zj K_zj noZ O_zj C_zj (fun x => T_zj x.1.1.1 x.1.1.2.1 x.1.2.1) (fun r => (((), ()), (r, ()))) func237 o_zj fun _ => by kernel_rfl)
theorem wakt : (wmg).OK waen tt noZ (orcOf waeo) (loopAt waep 0) := ldMk (fun _ => rfl) fun _ _ => by kernel_rfl
theorem wazo : LoopsOK waen tt noZ waeo waep := lpMk (by kernel_rfl) (lpC wakt lpN)
theorem wapa : FDok prog (236, waem) := fn_ok mixed (env_ok (fdN)) tabOK (fnMk waem waen wavu noZ waeo waep (fun x => wael x.1.1) (fun r => ((r, ()), ())) func236 wazo fun _ => by kernel_rfl)
theorem wapb : FDok prog (186, D_zo) := fn_ok mixed (env_ok (fdC waoz (fdC wapa fdN))) tabOK (fnMk D_zo (envOf [(237, D_zj), (236, waem)]) K_zo noZ [] ((f186.body).getD .skip) (fun x => T_zo x.1.1.1 x.1.1.2.1 x.1.2.1) (fun r => ((r, ()), ())) func186 (lpMk (by kernel_rfl) lpN) fun _ => by kernel_rfl)
theorem wapc : (wqw).OK E_zk tt noZ (orcOf O_zk) (loopAt C_zk 0) := ldMk (fun _ => rfl) fun _ _ => by kernel_rfl
theorem o_zk : LoopsOK E_zk tt noZ O_zk C_zk := lpMk (by kernel_rfl) (lpC wapc lpN)
theorem wapd : FDok prog (187, D_zk) := fn_ok mixed (env_ok (fdN)) tabOK (fnMk D_zk E_zk K_zk noZ O_zk C_zk (fun x => T_zk x.1.1.1 x.1.1.2.1 x.1.2.1) (fun r => ((r, ()), ())) func187 o_zk fun _ => by kernel_rfl)
theorem wazp : FDok prog (174, D_zp) := fn_ok mixed (env_ok (fdC wapd (fdC wapb fdN))) tabOK (fnMk D_zp (envOf [(187, D_zk), (186, D_zo)]) K_zp noZ [] ((f174.body).getD .skip) (fun x => T_zp x.1.1.1 x.1.1.2.1 x.1.2.1) (fun r => ((r, ()), ())) func174 (lpMk (by kernel_rfl) lpN) fun _ => by kernel_rfl)
theorem waku : (wmh).OK waes tt noZ (orcOf waet) (loopAt waeu 0) := ldMk (fun _ => rfl) fun _ _ => by kernel_rfl
theorem wazq : LoopsOK waes tt noZ waet waeu := lpMk (by kernel_rfl) (lpC waku lpN)
theorem wape : FDok prog (238, waer) := fn_ok mixed (env_ok (fdN)) tabOK (fnMk waer waes wawc noZ waet waeu (fun x => waeq x.1.1) (fun r => ((r, ()), ())) func238 wazq fun _ => by kernel_rfl)
theorem wazr : FDok prog (188, D_zl) := fn_ok mixed (env_ok (fdC waoz (fdC wape fdN))) tabOK (fnMk D_zl (envOf [(237, D_zj), (238, waer)]) K_zl noZ [] ((f188.body).getD .skip) (fun x => T_zl x.1.1.1 x.1.1.2.1 x.1.2.1) (fun r => ((r, ()), ())) func188 (lpMk (by kernel_rfl) lpN) fun _ => by kernel_rfl)
theorem wyl : FDok prog (93, D_zq) := fn_ok mixed (env_ok (fdC wapb (fdC wapd (fdC wazp (fdC wazr fdN))))) tabOK (fnMk D_zq (envOf [(186, D_zo), (187, D_zk), (174, D_zp), (188, D_zl)]) K_zq noZ [] ((f93.body).getD .skip) (fun x => T_zq x.1.1.1 x.1.1.2.1 x.1.2.1 x.1.2.2.1) (fun r => ((r, ()), ())) func93 (lpMk (by kernel_rfl) lpN) fun _ => by kernel_rfl)
theorem wakv : (wmi).OK wwq tt noZ (orcOf wwr) (loopAt wws 2) := ldMk (fun _ => rfl) fun _ _ => by kernel_rfl
theorem wakw : (wmj).OK wwq tt noZ (orcOf wwr) (loopAt wws 0) := ldMk (fun _ => rfl) fun _ _ => by kernel_rfl
theorem wazs : LoopsOK wwq tt noZ wwr wws := lpMk (by kernel_rfl) (lpC wakv (lpC wakw lpN))
theorem wapf : FDok prog (249, waew) := fn_ok mixed (env_ok (fdN)) tabOK (fnMk waew wwq wawg noZ wwr wws (fun x => waev x.1.2.1 x.1.2.2.1 x.1.2.2.2.1 x.2.1) (fun r => ((), (r, ()))) func249 wazs fun _ => by kernel_rfl)
theorem wakx : (wmk).OK waez tt noZ (orcOf wafa) (loopAt wafb 0) := ldMk (fun _ => rfl) fun _ _ => by kernel_rfl
theorem wazt : LoopsOK waez tt noZ wafa wafb := lpMk (by kernel_rfl) (lpC wakx lpN)
theorem wapg : FDok prog (285, waey) := fn_ok mixed (env_ok (fdN)) tabOK (fnMk waey waez wawh noZ wafa wafb (fun x => waex x.1.2.1 x.1.2.2.1 x.1.2.2.2.1 x.1.2.2.2.2.1 x.2.1) (fun r => ((), (r, ()))) func285 wazt fun _ => by kernel_rfl)
theorem waky : (wml).OK wafe tt noZ (orcOf waff) (loopAt wafg 0) := ldMk (fun _ => rfl) fun _ _ => by kernel_rfl
theorem wazu : LoopsOK wafe tt noZ waff wafg := lpMk (by kernel_rfl) (lpC waky lpN)
theorem waph : FDok prog (268, wafd) := fn_ok mixed (env_ok (fdC wapg fdN)) tabOK (fnMk wafd wafe wawi noZ waff wafg (fun x => wafc x.1.2.1 x.1.2.2.1 x.1.2.2.2.1 x.1.2.2.2.2.1 x.2.1) (fun r => ((), (r, ()))) func268 wazu fun _ => by kernel_rfl)
theorem wakz (rec_ : (Int) → (Int) → (Int) → ((HL [(.pair (.pair yi yi) y1), (.pair (.pair yi yi) y1)] → Option (Int))) → Yc → Option Yc) : (wmm rec_).OK (wkg rec_) tt noZ (orcOf (wkh rec_)) (loopAt wki 0) := ldMk (fun _ => rfl) fun _ _ => by kernel_rfl
theorem wala (rec_ : (Int) → (Int) → (Int) → ((HL [(.pair (.pair yi yi) y1), (.pair (.pair yi yi) y1)] → Option (Int))) → Yc → Option Yc) : (wmn rec_).OK (wkg rec_) tt noZ (orcOf (wkh rec_)) (loopAt wki 2) := ldMk (fun _ => rfl) fun _ _ => by kernel_rfl
theorem walb (rec_ : (Int) → (Int) → (Int) → ((HL [(.pair (.pair yi yi) y1), (.pair (.pair yi yi) y1)] → Option (Int))) → Yc → Option Yc) : (wmo rec_).OK (wkg rec_) tt noZ (orcOf (wkh rec_)) (loopAt wki 4) := ldMk (fun _ => rfl) fun _ _ => by kernel_rfl
theorem walc (rec_ : (Int) → (Int) → (Int) → ((HL [(.pair (.pair yi yi) y1), (.pair (.pair yi yi) y1)] → Option (Int))) → Yc → Option Yc) : (wmp rec_).OK (wkg rec_) tt noZ (orcOf (wkh rec_)) (loopAt wki 6) := ldMk (fun _ => rfl) fun _ _ => by kernel_rfl
theorem wald (rec_ : (Int) → (Int) → (Int) → ((HL [(.pair (.pair yi yi) y1), (.pair (.pair yi yi) y1)] → Option (Int))) → Yc → Option Yc) : (wmq rec_).OK (wkg rec_) tt noZ (orcOf (wkh rec_)) (loopAt wki 8) := ldMk (fun _ => rfl) fun _ _ => by kernel_rfl
theorem wazv (rec_ : (Int) → (Int) → (Int) → ((HL [(.pair (.pair yi yi) y1), (.pair (.pair yi yi) y1)] → Option (Int))) → Yc → Option Yc) : LoopsOK (wkg rec_) tt noZ (wkh rec_) wki := lpMk (by kernel_rfl) (lpC (wakz rec_) (lpC (wala rec_) (lpC (walb rec_) (lpC (walc rec_) (lpC (wald rec_) lpN)))))
theorem waax : ∀ n : Nat, FDok prog (250, wafh n)
 | 0 => fun _ _ h => nomatch h
 | n + 1 => fn_ok mixed (env_ok (fdC waph (fdC (waax n) fdN))) tabOK (fnMk (wafh (n + 1)) (wkg (waz n)) wawj noZ (wkh (waz n)) wki (fun x => wqx (waz n) x.1.2.1 x.1.2.2.1 x.1.2.2.2.1 x.1.2.2.2.2.1 x.2.1) (fun r => ((), (r, ()))) func250 (wazv (waz n)) fun _ => by kernel_rfl)
theorem wale : (wmr).OK wqy tt noZ (orcOf wqz) (loopAt wra 0) := ldMk (fun _ => rfl) fun _ _ => by kernel_rfl
theorem walf : (wms).OK wqy tt noZ (orcOf wqz) (loopAt wra 4) := ldMk (fun _ => rfl) fun _ _ => by kernel_rfl
theorem walg : (wmt).OK wqy tt noZ (orcOf wqz) (loopAt wra 2) := ldMk (fun _ => rfl) fun _ _ => by kernel_rfl
theorem wazw : LoopsOK wqy tt noZ wqz wra := lpMk (by kernel_rfl) (lpC wale (lpC walf (lpC walg lpN)))
theorem wapi : FDok prog (230, wafk) := fn_ok mixed (env_ok (fdC wapf (fdC (waax 1000000) fdN))) tabOK (fnMk wafk wqy wawk noZ wqz wra (fun x => wafi x.1.2.1 x.1.2.2.1 x.2.1) (fun r => ((), (r, ()))) func230 wazw fun _ => by kernel_rfl)
theorem waay : FDok prog (179, wwu) := fn_ok mixed (env_ok (fdC wapi fdN)) tabOK (fnMk wwu (envOf [(230, wafk)]) wawl noZ [] ((f179.body).getD .skip) (fun x => wafl x.1.2.1 x.2.1) (fun r => ((), (r, ()))) func179 (lpMk (by kernel_rfl) lpN) fun _ => by kernel_rfl)
theorem wazx : FDok prog (180, D_zh) := fn_ok mixed (env_ok (fdC wakq (fdC waou fdN))) tabOK (fnMk D_zh (envOf [(182, D_za), (181, D_zb)]) K_zh noZ [] ((f180.body).getD .skip) (fun x => T_zh x.1.1.1 x.1.1.2.1 x.1.1.2.2.1 x.1.2.1.1 x.1.2.1.2.1 x.1.2.1.2.2.1) (fun r => ((r, ()), ())) func180 (lpMk (by kernel_rfl) lpN) fun _ => by kernel_rfl)
theorem wapj : (wrc).OK E_zg tt Z_zg (orcOf O_zg) (loopAt C_zg 0) := ldMk (fun _ => rfl) fun _ _ => by kernel_rfl
theorem wapk : (wre).OK E_zg tt Z_zg (orcOf O_zg) (loopAt C_zg 2) := ldMk (fun _ => rfl) fun _ _ => by kernel_rfl
theorem o_zg : LoopsOK E_zg tt Z_zg O_zg C_zg := lpMk (by kernel_rfl) (lpC wapj (lpC wapk lpN))
theorem wapl : FDok prog (86, D_zg) := fn_ok mixed (env_ok (fdC waaw (fdC wyl (fdC waay (fdC waay (fdC wazx fdN)))))) tabOK (fnMk D_zg E_zg K_zg Z_zg O_zg C_zg (fun x => T_zg x.1.1.1 x.1.1.2.1 x.1.2.1 x.1.2.2.1) (fun r => (((), ((), ())), (r.1, (r.2, ())))) func86 o_zg fun _ => by kernel_rfl)
theorem wazy : FDok prog (11, D_zr) := fn_ok mixed (env_ok (fdC wsi (fdC wapl fdN))) tabOK (fnMk D_zr (envOf [(85, wqm), (86, D_zg)]) K_zr noZ [] ((f11.body).getD .skip) (fun x => T_zr x.1.1.1 x.1.1.2.1 x.1.2.1 x.1.2.2.1) (fun r => (((), (r.1, ())), (r.2, ()))) func11 (lpMk (by kernel_rfl) lpN) fun _ => by kernel_rfl)
theorem wnw : FDok prog (130, wor) := fn_ok mixed (env_ok (fdN)) tabOK (fnMk wor (envOf []) wawr noZ [] ((f130.body).getD .skip) (fun x => wafm x.1.1 x.1.2.1 x.1.2.2.1) (fun r => ((r, ()), ())) func130 (lpMk (by kernel_rfl) lpN) fun _ => by kernel_rfl)
theorem walh : (wmu).OK wafp tt noZ (orcOf wafq) (loopAt wafr 0) := ldMk (fun _ => rfl) fun _ _ => by kernel_rfl
theorem wazz : LoopsOK wafp tt noZ wafq wafr := lpMk (by kernel_rfl) (lpC walh lpN)
theorem wapm : FDok prog (200, wafo) := fn_ok mixed (env_ok (fdC wnw fdN)) tabOK (fnMk wafo wafp waws noZ wafq wafr (fun x => wafn x.1.1 x.1.2.1 x.1.2.2.1) (fun r => ((r, ()), ())) func200 wazz fun _ => by kernel_rfl)
theorem wali : (wmv).OK waft tt noZ (orcOf wafu) (loopAt wafv 0) := ldMk (fun _ => rfl) fun _ _ => by kernel_rfl
theorem wbaa : LoopsOK waft tt noZ wafu wafv := lpMk (by kernel_rfl) (lpC wali lpN)
theorem waaz : FDok prog (166, wwv) := fn_ok mixed (env_ok (fdC wapm (fdC wnw fdN))) tabOK (fnMk wwv waft wawt noZ wafu wafv (fun x => wafs x.1.1.1 x.1.1.2.1) (fun r => ((r, ()), ())) func166 wbaa fun _ => by kernel_rfl)
theorem waba : FDok prog (102, wwx) := fn_ok mixed (env_ok (fdC wnw fdN)) tabOK (fnMk wwx (envOf [(130, wor)]) wawu noZ [] ((f102.body).getD .skip) (fun x => www x.1.1) (fun r => ((r, ()), ())) func102 (lpMk (by kernel_rfl) lpN) fun _ => by kernel_rfl)
theorem wsj : FDok prog (87, wrj) := fn_ok mixed (env_ok (fdC waaz (fdC waba fdN))) tabOK (fnMk wrj (envOf [(166, wwv), (102, wwx)]) wawv noZ [] ((f87.body).getD .skip) (fun x => wafw x.1.1.1 x.1.1.2.1 x.1.2.1 x.1.2.2.1) (fun r => ((r, ()), ())) func87 (lpMk (by kernel_rfl) lpN) fun _ => by kernel_rfl)
theorem walj : (wmw).OK wafx tt noZ (orcOf wafy) (loopAt wafz 0) := ldMk (fun _ => rfl) fun _ _ => by kernel_rfl
theorem wbab : LoopsOK wafx tt noZ wafy wafz := lpMk (by kernel_rfl) (lpC walj lpN)
theorem wabb : FDok prog (119, wwy) := fn_ok mixed (env_ok (fdN)) tabOK (fnMk wwy wafx waww noZ wafy wafz (fun x => wrk x.1.1 x.1.2.1) (fun r => (((), ()), (r, ()))) func119 wbab fun _ => by kernel_rfl)
theorem walm : (wmx).OK wagb tt noZ (orcOf wagc) (loopAt wagd 0) := ldMk (fun _ => rfl) fun _ _ => by kernel_rfl
theorem wbac : LoopsOK wagb tt noZ wagc wagd := lpMk (by kernel_rfl) (lpC walm lpN)
theorem wapn : FDok prog (189, waga) := fn_ok mixed (env_ok (fdN)) tabOK (fnMk waga wagb wawx noZ wagc wagd (fun x => wwz x.1.1 x.1.2.1) (fun r => ((r, ()), ())) func189 wbac fun _ => by kernel_rfl)
theorem waln : (wmy).OK wxe tt wxd (orcOf wxf) (loopAt wxg 2) := ldMk (fun _ => rfl) fun _ _ => by kernel_rfl
theorem walo : (wmz).OK wxe tt wxd (orcOf wxf) (loopAt wxg 0) := ldMk (fun _ => rfl) fun _ _ => by kernel_rfl
theorem wbad : LoopsOK wxe tt wxd wxf wxg := lpMk (by kernel_rfl) (lpC waln (lpC walo lpN))
theorem wabc : FDok prog (96, wxc) := fn_ok mixed (env_ok (fdC wabb (fdC wapn fdN))) tabOK (fnMk wxc wxe wawy wxd wxf wxg (fun x => wxb x.1.1) (fun r => ((r, ()), ())) func96 wbad fun _ => by kernel_rfl)
theorem walp : (wna).OK wagg tt noZ (orcOf wagh) (loopAt wagi 0) := ldMk (fun _ => rfl) fun _ _ => by kernel_rfl
theorem wbae : LoopsOK wagg tt noZ wagh wagi := lpMk (by kernel_rfl) (lpC walp lpN)
theorem wapo : FDok prog (262, wagf) := fn_ok mixed (env_ok (fdN)) tabOK (fnMk wagf wagg wawz noZ wagh wagi (fun x => wage x.1.1.1 x.1.1.2.1 x.1.2.1 x.1.2.2.1) (fun r => ((r, ()), ())) func262 wbae fun _ => by kernel_rfl)
theorem wabd : FDok prog (239, wxi) := fn_ok mixed (env_ok (fdC wapo fdN)) tabOK (fnMk wxi (envOf [(262, wagf)]) waxa noZ [] ((f239.body).getD .skip) (fun x => wagj x.1.1.1 x.1.1.2.1 x.1.2.1 x.1.2.2.1) (fun r => ((r, ()), ())) func239 (lpMk (by kernel_rfl) lpN) fun _ => by kernel_rfl)
theorem walq : (wnb).OK wagl tt noZ (orcOf wagm) (loopAt wagn 0) := ldMk (fun _ => rfl) fun _ _ => by kernel_rfl
theorem wbaf : LoopsOK wagl tt noZ wagm wagn := lpMk (by kernel_rfl) (lpC walq lpN)
theorem wabe : FDok prog (190, wxj) := fn_ok mixed (env_ok (fdC wabd fdN)) tabOK (fnMk wxj wagl waxb noZ wagm wagn (fun x => wagk x.1.1.1 x.1.1.2.1 x.1.2.1) (fun r => ((r, ()), ())) func190 wbaf fun _ => by kernel_rfl)
theorem walr : (wnc).OK wagp tt noZ (orcOf wagq) (loopAt wagr 0) := ldMk (fun _ => rfl) fun _ _ => by kernel_rfl
theorem wbag : LoopsOK wagp tt noZ wagq wagr := lpMk (by kernel_rfl) (lpC walr lpN)
theorem wabf : FDok prog (191, wxk) := fn_ok mixed (env_ok (fdN)) tabOK (fnMk wxk wagp waxc noZ wagq wagr (fun x => wago x.1.1.1 x.1.1.2.1 x.1.2.1) (fun r => ((r, ()), ())) func191 wbag fun _ => by kernel_rfl)
theorem wapp : FDok prog (192, wagt) := fn_ok mixed (env_ok (fdC wabe (fdC wabf fdN))) tabOK (fnMk wagt (envOf [(190, wxj), (191, wxk)]) waxd noZ [] ((f192.body).getD .skip) (fun x => wags x.1.1.1 x.1.1.2.1 x.1.2.1) (fun r => ((r, ()), ())) func192 (lpMk (by kernel_rfl) lpN) fun _ => by kernel_rfl)
theorem wals : (wnd).OK wagw tt noZ (orcOf wagx) (loopAt wagy 0) := ldMk (fun _ => rfl) fun _ _ => by kernel_rfl
theorem wbah : LoopsOK wagw tt noZ wagx wagy := lpMk (by kernel_rfl) (lpC wals lpN)
theorem wapq : FDok prog (193, wagv) := fn_ok mixed (env_ok (fdC wabd (fdC waak fdN))) tabOK (fnMk wagv wagw waxe noZ wagx wagy (fun x => wagu x.1.1.1 x.1.1.2.1 x.1.2.1) (fun r => ((r, ()), ())) func193 wbah fun _ => by kernel_rfl)
theorem wsk : FDok prog (97, wrr) := fn_ok mixed (env_ok (fdC wabe (fdC wabf (fdC wapp (fdC wapq fdN))))) tabOK (fnMk wrr (envOf [(190, wxj), (191, wxk), (192, wagt), (193, wagv)]) waxf noZ [] ((f97.body).getD .skip) (fun x => wagz x.1.1.1 x.1.1.2.1 x.1.2.1 x.1.2.2.1) (fun r => ((r, ()), ())) func97 (lpMk (by kernel_rfl) lpN) fun _ => by kernel_rfl)
theorem wapr : FDok prog (232, wahb) := fn_ok mixed (env_ok (fdN)) tabOK (fnMk wahb (envOf []) waxg noZ [] ((f232.body).getD .skip) (fun x => waha x.1.1.1 x.1.1.2.1 x.1.2.1.1 x.1.2.1.2.1) (fun r => ((r, ()), ())) func232 (lpMk (by kernel_rfl) lpN) fun _ => by kernel_rfl)
theorem walt : (wne).OK wxo tt noZ (orcOf wxp) (loopAt wxq 0) := ldMk (fun _ => rfl) fun _ _ => by kernel_rfl
theorem walu : (wnf).OK wxo tt noZ (orcOf wxp) (loopAt wxq 2) := ldMk (fun _ => rfl) fun _ _ => by kernel_rfl
theorem wbai : LoopsOK wxo tt noZ wxp wxq := lpMk (by kernel_rfl) (lpC walt (lpC walu lpN))
theorem waps : FDok prog (183, wahd) := fn_ok mixed (env_ok (fdC wapr fdN)) tabOK (fnMk wahd wxo waxh noZ wxp wxq (fun x => wahc x.1.1 x.1.2.1 x.1.2.2.1.1 x.1.2.2.1.2.1 x.1.2.2.2.1) (fun r => ((r.1, (r.2, ())), ())) func183 wbai fun _ => by kernel_rfl)
theorem walv : (wng).OK wahg tt wahf (orcOf wahh) (loopAt wahi 0) := ldMk (fun _ => rfl) fun _ _ => by kernel_rfl
theorem wbaj : LoopsOK wahg tt wahf wahh wahi := lpMk (by kernel_rfl) (lpC walv lpN)
theorem wabg : FDok prog (88, wxr) := fn_ok mixed (env_ok (fdC wabc (fdC wsk (fdC waps fdN)))) tabOK (fnMk wxr wahg waxi wahf wahh wahi (fun x => wahe x.1.1.1 x.1.1.2.1 x.1.2.1 x.1.2.2.1) (fun r => ((r.1, (r.2, ())), ())) func88 wbaj fun _ => by kernel_rfl)
theorem wapt : FDok prog (12, wahk) := fn_ok mixed (env_ok (fdC wsj (fdC wabg fdN))) tabOK (fnMk wahk (envOf [(87, wrj), (88, wxr)]) waxj noZ [] ((f12.body).getD .skip) (fun x => wahj x.1.1.1 x.1.1.2.1 x.1.2.1 x.1.2.2.1) (fun r => ((r.1, (r.2, ())), ())) func12 (lpMk (by kernel_rfl) lpN) fun _ => by kernel_rfl)
theorem wbak : FDok prog (13, D_zs) := fn_ok mixed (env_ok (fdC wsi (fdC wapl fdN))) tabOK (fnMk D_zs (envOf [(85, wqm), (86, D_zg)]) K_zs noZ [] ((f13.body).getD .skip) (fun x => T_zs x.1.1.1 x.1.1.2.1 x.1.2.1 x.1.2.2.1) (fun r => (((), (r.1, ())), (r.2, ()))) func13 (lpMk (by kernel_rfl) lpN) fun _ => by kernel_rfl)
theorem wapu : FDok prog (14, wahm) := fn_ok mixed (env_ok (fdC wsj (fdC wabg fdN))) tabOK (fnMk wahm (envOf [(87, wrj), (88, wxr)]) waxm waxn [] ((f14.body).getD .skip) (fun x => wahl x.1.1.1 x.1.1.2.1 x.1.2.1 x.1.2.2.1) (fun r => ((r.1, (r.2, ())), ())) func14 (lpMk (by kernel_rfl) lpN) fun _ => by kernel_rfl)
theorem walw : (wnh).OK waho tt noZ (orcOf wahp) (loopAt wahq 0) := ldMk (fun _ => rfl) fun _ _ => by kernel_rfl
theorem wbal : LoopsOK waho tt noZ wahp wahq := lpMk (by kernel_rfl) (lpC walw lpN)
theorem wabh : FDok prog (19, wxu) := fn_ok mixed (env_ok (fdN)) tabOK (fnMk wxu waho waxo noZ wahp wahq (fun x => wahn x.1.1 x.1.2.1) (fun r => ((r, ()), ())) func19 wbal fun _ => by kernel_rfl)
theorem walx : (wni).OK waht tt noZ (orcOf wahu) (loopAt wahv 0) := ldMk (fun _ => rfl) fun _ _ => by kernel_rfl
theorem wbam : LoopsOK waht tt noZ wahu wahv := lpMk (by kernel_rfl) (lpC walx lpN)
theorem wapv : FDok prog (15, wahs) := fn_ok mixed (env_ok (fdC wabh fdN)) tabOK (fnMk wahs waht waxp noZ wahu wahv (fun x => wahr x.1.1 x.1.2.1) (fun r => ((r, ()), ())) func15 wbam fun _ => by kernel_rfl)
theorem wabi : FDok prog (89, wxw) := fn_ok mixed (env_ok (fdC waam fdN)) tabOK (fnMk wxw (envOf [(82, wuw)]) waxq noZ [] ((f89.body).getD .skip) (fun x => wahw x.2.1.1 x.2.1.2.1 x.2.1.2.2.1) (fun r => ((((), ((), ())), ()), (r.1, (r.2.1, ((r.2.2.1, (r.2.2.2.1, (r.2.2.2.2, ()))), ()))))) func89 (lpMk (by kernel_rfl) lpN) fun _ => by kernel_rfl)
theorem wapw : FDok prog (16, wahy) := fn_ok mixed (env_ok (fdC wabi (fdC wsh (fdC wfe fdN)))) tabOK (fnMk wahy (envOf [(89, wxw), (84, wqi), (83, whx)]) waxr waxs [] ((f16.body).getD .skip) (fun x => wahx x.1.1) (fun r => ((((), ((), ())), (r.1, (r.2.1, (r.2.2.1, ())))), (r.2.2.2.1, (r.2.2.2.2, ())))) func16 (lpMk (by kernel_rfl) lpN) fun _ => by kernel_rfl)
theorem waly : (wnj).OK waib tt waia (orcOf waic) (loopAt waid 0) := ldMk (fun _ => rfl) fun _ _ => by kernel_rfl
theorem wban : LoopsOK waib tt waia waic waid := lpMk (by kernel_rfl) (lpC waly lpN)
theorem wabj : FDok prog (90, wxz) := fn_ok mixed (env_ok (fdC waap fdN)) tabOK (fnMk wxz waib waxt waia waic waid (fun x => wahz x.1.2.1 x.2.1) (fun r => ((r, ()), ())) func90 wban fun _ => by kernel_rfl)
theorem wbao : FDok prog (92, D_ze) := fn_ok mixed (env_ok (fdC wyl fdN)) tabOK (fnMk D_ze (envOf [(93, D_zq)]) K_ze noZ [] ((f92.body).getD .skip) (fun x => T_ze x.1.1 x.1.2.1.1 x.1.2.1.2.1 x.1.2.2.1.1 x.1.2.2.2.1.1) (fun r => ((r, ()), ())) func92 (lpMk (by kernel_rfl) lpN) fun _ => by kernel_rfl)
theorem walz : (wnk).OK waif tt noZ (orcOf waig) (loopAt waih 0) := ldMk (fun _ => rfl) fun _ _ => by kernel_rfl
theorem wbap : LoopsOK waif tt noZ waig waih := lpMk (by kernel_rfl) (lpC walz lpN)
theorem wabk : FDok prog (94, wyb) := fn_ok mixed (env_ok (fdN)) tabOK (fnMk wyb waif waxw noZ waig waih (fun x => waie x.1.1 x.1.2.1) (fun r => ((r, ()), ())) func94 wbap fun _ => by kernel_rfl)
theorem wbaq : FDok prog (95, D_zf) := fn_ok mixed (env_ok (fdC wyl fdN)) tabOK (fnMk D_zf (envOf [(93, D_zq)]) K_zf noZ [] ((f95.body).getD .skip) (fun x => T_zf x.1.1 x.1.2.1.1 x.1.2.1.2.1 x.1.2.2.1.1) (fun r => ((r, ()), ())) func95 (lpMk (by kernel_rfl) lpN) fun _ => by kernel_rfl)
theorem wbar : FDok prog (17, D_zd) := fn_ok mixed (env_ok (fdC wsi (fdC waaw (fdC wabj (fdC wabk (fdC wabk (fdC wbaq (fdC wabj (fdC wbao fdN))))))))) tabOK (fnMk D_zd (envOf [(85, wqm), (91, wwn), (90, wxz), (94, wyb), (94, wyb), (95, D_zf), (90, wxz), (92, D_ze)]) K_zd noZ [] ((f17.body).getD .skip) (fun x => T_zd x.1.1.1 x.1.1.2.1 x.1.2.1 x.1.2.2.1 x.1.2.2.2.1) (fun r => ((r.1, (r.2, ())), ())) func17 (lpMk (by kernel_rfl) lpN) fun _ => by kernel_rfl)
theorem wama : (wnl).OK waik tt noZ (orcOf wail) (loopAt waim 0) := ldMk (fun _ => rfl) fun _ _ => by kernel_rfl
theorem wbas : LoopsOK waik tt noZ wail waim := lpMk (by kernel_rfl) (lpC wama lpN)
theorem wapx : FDok prog (18, waij) := fn_ok mixed (env_ok (fdC wsj (fdC wabc (fdC wsk fdN)))) tabOK (fnMk waij waik wayb noZ wail waim (fun x => waii x.1.1.1 x.1.1.2.1 x.1.2.1 x.1.2.2.1 x.1.2.2.2.1) (fun r => ((r.1, (r.2, ())), ())) func18 wbas fun _ => by kernel_rfl)
theorem wapy : FDok prog (98, waio) := fn_ok mixed (env_ok (fdC waal (fdC wcm (fdC wabb (fdC waan (fdC wfe fdN)))))) tabOK (fnMk waio (envOf [(194, wuu), (120, wfb), (119, wwy), (121, wux), (83, whx)]) wayc wayd [] ((f98.body).getD .skip) (fun x => wain x.1.2.1.1 x.1.2.1.2.1 x.2.1.1 x.2.1.2.1 x.2.1.2.2.1) (fun r => (((), ()), (r.1, ((r.2.1, (r.2.2.1, (r.2.2.2, ()))), ())))) func98 (lpMk (by kernel_rfl) lpN) fun _ => by kernel_rfl)
theorem wapz : FDok prog (20, waiq) := fn_ok mixed (env_ok (fdC wabi (fdC wapy (fdC wsh fdN)))) tabOK (fnMk waiq (envOf [(89, wxw), (98, waio), (84, wqi)]) waye wayf [] ((f20.body).getD .skip) (fun x => waip x.1.1) (fun r => (((r.1, (r.2.1, ())), ((), (r.2.2.1, ()))), (r.2.2.2, ()))) func20 (lpMk (by kernel_rfl) lpN) fun _ => by kernel_rfl)
theorem wamb : (wno).OK waiu tt noZ (orcOf waiv) (loopAt waiw 0) := ldMk (fun _ => rfl) fun _ _ => by kernel_rfl
theorem wbat : LoopsOK waiu tt noZ waiv waiw := lpMk (by kernel_rfl) (lpC wamb lpN)
theorem waqa : FDok prog (117, wais) := fn_ok mixed (env_ok (fdC wnv fdN)) tabOK (fnMk wais waiu wayg noZ waiv waiw (fun x => wair x.1.1 x.1.2.1) (fun r => ((r, ()), ())) func117 wbat fun _ => by kernel_rfl)
theorem wbau : FDok prog (195, D_zi) := fn_ok mixed (env_ok (fdC waqa fdN)) tabOK (fnMk D_zi (envOf [(117, wais)]) K_zi noZ [] ((f195.body).getD .skip) (fun x => T_zi x.1.1.1 x.1.1.2.1 x.1.2.1) (fun r => ((r, ()), ())) func195 (lpMk (by kernel_rfl) lpN) fun _ => by kernel_rfl)
theorem waqb : FDok prog (99, waiy) := fn_ok mixed (env_ok (fdC waoh (fdC wbau fdN))) tabOK (fnMk waiy (envOf [(157, D_zt), (195, D_zi)]) wayk noZ [] ((f99.body).getD .skip) (fun x => waix x.1.1.1 x.1.1.2.1 x.1.2.1) (fun r => ((r, ()), ())) func99 (lpMk (by kernel_rfl) lpN) fun _ => by kernel_rfl)
theorem wbav : FDok prog (21, D_zv) := fn_ok mixed (env_ok (fdC waqb (fdC waar (fdC wyl fdN)))) tabOK (fnMk D_zv (envOf [(99, waiy), (100, wvg), (93, D_zq)]) K_zv noZ [] ((f21.body).getD .skip) (fun x => T_zv x.1.1.1 x.1.1.2.1 x.1.2.1 x.1.2.2.1) (fun r => ((r.1, (r.2, ())), ())) func21 (lpMk (by kernel_rfl) lpN) fun _ => by kernel_rfl)
theorem wamc : (wnp).OK wajb tt noZ (orcOf wajc) (loopAt wajd 0) := ldMk (fun _ => rfl) fun _ _ => by kernel_rfl
theorem wbaw : LoopsOK wajb tt noZ wajc wajd := lpMk (by kernel_rfl) (lpC wamc lpN)
theorem waqc : FDok prog (122, waja) := fn_ok mixed (env_ok (fdC wnw fdN)) tabOK (fnMk waja wajb wayn noZ wajc wajd (fun x => waiz x.1.1 x.1.2.1 x.1.2.2.1) (fun r => ((r, ()), ())) func122 wbaw fun _ => by kernel_rfl)
theorem waqd : FDok prog (196, wajf) := fn_ok mixed (env_ok (fdC waqc fdN)) tabOK (fnMk wajf (envOf [(122, waja)]) wayo noZ [] ((f196.body).getD .skip) (fun x => waje x.1.1.1 x.1.1.2.1 x.1.2.1) (fun r => ((r, ()), ())) func196 (lpMk (by kernel_rfl) lpN) fun _ => by kernel_rfl)
theorem waqe : FDok prog (101, wajh) := fn_ok mixed (env_ok (fdC waaz (fdC waqd fdN))) tabOK (fnMk wajh (envOf [(166, wwv), (196, wajf)]) wayp noZ [] ((f101.body).getD .skip) (fun x => wajg x.1.1.1 x.1.1.2.1 x.1.2.1) (fun r => ((r, ()), ())) func101 (lpMk (by kernel_rfl) lpN) fun _ => by kernel_rfl)
theorem waqf : FDok prog (22, wajj) := fn_ok mixed (env_ok (fdC waqe (fdC waba (fdC wsk fdN)))) tabOK (fnMk wajj (envOf [(101, wajh), (102, wwx), (97, wrr)]) wayq noZ [] ((f22.body).getD .skip) (fun x => waji x.1.1.1 x.1.1.2.1 x.1.2.1 x.1.2.2.1) (fun r => ((r.1, (r.2, ())), ())) func22 (lpMk (by kernel_rfl) lpN) fun _ => by kernel_rfl)
theorem wamd : (wnq).OK wik tt wij (orcOf wil) (loopAt wim 0) := ldMk (fun _ => rfl) fun _ _ => by kernel_rfl
theorem wame : (wnr).OK wik tt wij (orcOf wil) (loopAt wim 2) := ldMk (fun _ => rfl) fun _ _ => by kernel_rfl
theorem wamf : (wns).OK wik tt wij (orcOf wil) (loopAt wim 4) := ldMk (fun _ => rfl) fun _ _ => by kernel_rfl
theorem wamg : (wnt).OK wik tt wij (orcOf wil) (loopAt wim 8) := ldMk (fun _ => rfl) fun _ _ => by kernel_rfl
theorem wym : (wii).OK wik tt wij (orcOf wil) (loopAt wim 10) := ldMk (fun _ => rfl) fun _ _ => by kernel_rfl
theorem wamh : (wnu).OK wik tt wij (orcOf wil) (loopAt wim 6) := ldMk (fun _ => rfl) fun _ _ => by kernel_rfl
theorem wbax : LoopsOK wik tt wij wil wim := lpMk (by kernel_rfl) (lpC wamd (lpC wame (lpC wamf (lpC wamg (lpC wym (lpC wamh lpN))))))
theorem waqg : FDok prog (3, wajm) := fn_ok mixed (env_ok (fdC wanx (fdC waoe (fdC wazy (fdC wapt (fdC wbak (fdC wapu (fdC wapv (fdC wapw (fdC wbar (fdC wapx (fdC wabh (fdC wapz (fdC wbav (fdC waqf fdN))))))))))))))) tabOK (fnMk wajm wik wayr wij wil wim (fun x => wajk x.1.1) (fun r => ((r, ()), ())) func3 wbax fun _ => by kernel_rfl)
end Go.Proofs.YtnagpmhaddfgmaaGreat
