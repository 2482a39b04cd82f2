import Derived.Test.YtnagpmhaddfgmaaC1
namespace Go.Proofs.Ytnagpmhaddfgmaa
open Go.Proofs.Try
open List (length getD set)
open Int (toNat)
open IntKind (wrap)
theorem mixed : prog.follows .mixedOrders = true := by kernel_rfl
theorem waf : wan prog tt := wbdn (by kernel_rfl)
theorem wbdu : waw prog (20, wash) := wae mixed (wz (fdN)) waf (wbc wash (wac []) wbio noZ [] ((f20.body).getD .skip) (fun x => wasf x.1.1) (fun r => ((r, ()), ())) func20 (wbd (by kernel_rfl) lpN) fun _ => by kernel_rfl)
theorem wbdv : waw prog (121, wasj) := wae mixed (wz (fdN)) waf (wbc wasj (wac []) wbip noZ [] ((f121.body).getD .skip) (fun x => wasi x.2.1.1 x.2.1.2.1 x.2.1.2.2.1) (fun r => ((r.1, ()), ((r.2.1, (r.2.2.1, (r.2.2.2, ()))), ()))) func121 (wbd (by kernel_rfl) lpN) fun _ => by kernel_rfl)
theorem wie : waw prog (98, wmo) := wae mixed (wz (fdC wbdv fdN)) waf (wbc wmo (wac [(121, wasj)]) wbiq noZ [] ((f98.body).getD .skip) (fun x => wask x.1.2.1 x.2.1.1 x.2.1.2.1 x.2.1.2.2.1) (fun r => ((r.1, ()), ((r.2.1, (r.2.2.1, (r.2.2.2, ()))), ()))) func98 (wbd (by kernel_rfl) lpN) fun _ => by kernel_rfl)
theorem wtj : waw prog (101, wvf) := wae mixed (wz (fdC wie fdN)) waf (wbc wvf (wac [(98, wmo)]) wbir noZ [] ((f101.body).getD .skip) (fun x => wasl x.1.2.1 x.2.1.1 x.2.1.2.1 x.2.1.2.2.1) (fun r => ((r.1, ()), ((r.2.1, (r.2.2.1, (r.2.2.2, ()))), ()))) func101 (wbd (by kernel_rfl) lpN) fun _ => by kernel_rfl)
theorem wazp : (wxm).OK waex tt waew (waj waey) (wab waez 0) := wbw (fun _ => rfl) fun _ _ => by kernel_rfl
theorem wazq : (wxn).OK waex tt waew (waj waey) (wab waez 4) := wbw (fun _ => rfl) fun _ _ => by kernel_rfl
theorem wazr : (wxo).OK waex tt waew (waj waey) (wab waez 2) := wbw (fun _ => rfl) fun _ _ => by kernel_rfl
theorem wbnl : waa waex tt waew waey waez := wbd (by kernel_rfl) (lpC wazp (lpC wazq (lpC wazr lpN)))
theorem waql : waw prog (118, waly) := wae mixed (wz (fdC wtj (fdC wie fdN))) waf (wbc waly waex wbis waew waey waez (fun x => wasm x.1.2.1 x.2.1.1 x.2.1.2.1 x.2.1.2.2.1) (fun r => ((((), ((), ())), ()), (r.1, (r.2.1, ((r.2.2.1, (r.2.2.2.1, (r.2.2.2.2, ()))), ()))))) func118 wbnl fun _ => by kernel_rfl)
theorem wpe : waw prog (140, wsw) := wae mixed (wz (fdN)) waf (wbc wsw (wac []) wbit noZ [] ((f140.body).getD .skip) (fun x => walz x.1.1) (fun r => (((), ()), (r, ()))) func140 (wbd (by kernel_rfl) lpN) fun _ => by kernel_rfl)
theorem wazs : (wxp).OK wasq tt wasp (waj wasr) (wab wass 1) := wbw (fun _ => rfl) fun _ _ => by kernel_rfl
theorem wbnm : waa wasq tt wasp wasr wass := wbd (by kernel_rfl) (lpC wazs lpN)
theorem wbdw : waw prog (117, waso) := wae mixed (wz (fdC wie (fdC wtj (fdC wpe fdN)))) waf (wbc waso wasq wbiu wasp wasr wass (fun x => wasn x.2.1.1 x.2.1.2.1 x.2.1.2.2.1 x.2.2.1 x.2.2.2.1) (fun r => ((((), ((), ())), ()), (r.1, (r.2.1, ((r.2.2.1, (r.2.2.2.1, (r.2.2.2.2, ()))), ()))))) func117 wbnm fun _ => by kernel_rfl)
theorem wahy : waw prog (109, wafb) := wae mixed (wz (fdN)) waf (wbc wafb (wac []) wbiv noZ [] ((f109.body).getD .skip) (fun x => wast x.1.1 x.1.2.1) (fun r => ((r, ()), ())) func109 (wbd (by kernel_rfl) lpN) fun _ => by kernel_rfl)
theorem wazt : (wxq).OK waff tt noZ (waj wafg) (wab wafh 0) := wbw (fun _ => rfl) fun _ _ => by kernel_rfl
theorem wazu : (wxr).OK waff tt noZ (waj wafg) (wab wafh 4) := wbw (fun _ => rfl) fun _ _ => by kernel_rfl
theorem wazv : (wxs).OK waff tt noZ (waj wafg) (wab wafh 2) := wbw (fun _ => rfl) fun _ _ => by kernel_rfl
theorem wbnn : waa waff tt noZ wafg wafh := wbd (by kernel_rfl) (lpC wazt (lpC wazu (lpC wazv lpN)))
theorem wbdx : waw prog (119, wasv) := wae mixed (wz (fdC waql (fdC wie (fdC wahy fdN)))) waf (wbc wasv waff wbiw noZ wafg wafh (fun x => wasu x.1.2.1 x.2.1.1 x.2.1.2.1 x.2.1.2.2.1) (fun r => ((((), ((), ())), ()), (r.1, (r.2.1, ((r.2.2.1, (r.2.2.2.1, (r.2.2.2.2, ()))), ()))))) func119 wbnn fun _ => by kernel_rfl)
theorem wazw : (wxt).OK wasy tt noZ (waj wasz) (wab wata 0) := wbw (fun _ => rfl) fun _ _ => by kernel_rfl
theorem wbno : waa wasy tt noZ wasz wata := wbd (by kernel_rfl) (lpC wazw lpN)
theorem wbdy : waw prog (141, wasx) := wae mixed (wz (fdC wpe fdN)) waf (wbc wasx wasy wbix noZ wasz wata (fun x => wasw x.1.1.1 x.1.1.2.1) (fun r => ((((), ((), ())), ()), (r.1, (r.2, ())))) func141 wbno fun _ => by kernel_rfl)
theorem wazx : (wxu).OK wabf tt noZ (waj wabg) (wab wabh 6) := wbw (fun _ => rfl) fun _ _ => by kernel_rfl
theorem wazy : (wxv).OK wabf tt noZ (waj wabg) (wab wabh 4) := wbw (fun _ => rfl) fun _ _ => by kernel_rfl
theorem wazz : (wxw).OK wabf tt noZ (waj wabg) (wab wabh 2) := wbw (fun _ => rfl) fun _ _ => by kernel_rfl
theorem wbaa : (wxx).OK wabf tt noZ (waj wabg) (wab wabh 0) := wbw (fun _ => rfl) fun _ _ => by kernel_rfl
theorem wbnp : waa wabf tt noZ wabg wabh := wbd (by kernel_rfl) (lpC wazx (lpC wazy (lpC wazz (lpC wbaa lpN))))
theorem wbdz : waw prog (142, watc) := wae mixed (wz (fdN)) waf (wbc watc wabf wbiy noZ wabg wabh (fun x => watb x.1.1.1 x.1.1.2.1) (fun r => ((r, ()), ())) func142 wbnp fun _ => by kernel_rfl)
theorem wahz : waw prog (68, wafn) := wae mixed (wz (fdN)) waf (wbc wafn (wac []) wbiz noZ [] ((f68.body).getD .skip) (fun x => watd x.1.1 x.1.2.1) (fun r => ((r, ()), ())) func68 (wbd (by kernel_rfl) lpN) fun _ => by kernel_rfl)
theorem wbab : (wxy).OK wvi tt noZ (waj wvj) (wab wvk 8) := wbw (fun _ => rfl) fun _ _ => by kernel_rfl
theorem wbac : (wxz).OK wvi tt noZ (waj wvj) (wab wvk 6) := wbw (fun _ => rfl) fun _ _ => by kernel_rfl
theorem wbad : (wya).OK wvi tt noZ (waj wvj) (wab wvk 4) := wbw (fun _ => rfl) fun _ _ => by kernel_rfl
theorem wbae : (wyb).OK wvi tt noZ (waj wvj) (wab wvk 2) := wbw (fun _ => rfl) fun _ _ => by kernel_rfl
theorem wbaf : (wyc).OK wvi tt noZ (waj wvj) (wab wvk 0) := wbw (fun _ => rfl) fun _ _ => by kernel_rfl
theorem wbnq : waa wvi tt noZ wvj wvk := wbd (by kernel_rfl) (lpC wbab (lpC wbac (lpC wbad (lpC wbae (lpC wbaf lpN)))))
theorem wbea : waw prog (120, watf) := wae mixed (wz (fdC wbdy (fdC wbdz (fdC wahz fdN)))) waf (wbc watf wvi wbja noZ wvj wvk (fun x => wate x.1.1.1 x.1.1.2.1) (fun r => ((((), ((), ())), ()), (r.1, (r.2, ())))) func120 wbnq fun _ => by kernel_rfl)
theorem wbeb : waw prog (96, wath) := wae mixed (wz (fdC wie (fdC waql (fdC wbdw (fdC wbdx (fdC wbea fdN)))))) waf (wbc wath (wac [(98, wmo), (118, waly), (117, waso), (119, wasv), (120, watf)]) wbjb noZ [] ((f96.body).getD .skip) (fun x => watg x.1.2.1 x.2.1.1 x.2.1.2.1 x.2.1.2.2.1) (fun r => ((((), ((), ())), ()), (r.1, (r.2.1, ((r.2.2.1, (r.2.2.2.1, (r.2.2.2.2, ()))), ()))))) func96 (wbd (by kernel_rfl) lpN) fun _ => by kernel_rfl)
theorem wpf : waw prog (74, wsx) := wae mixed (wz (fdN)) waf (wbc wsx (wac []) wbjc noZ [] ((f74.body).getD .skip) (fun x => wati x.1.1 x.1.2.1 x.1.2.2.1) (fun r => ((r, ()), ())) func74 (wbd (by kernel_rfl) lpN) fun _ => by kernel_rfl)
theorem wbag : (wyd).OK watl tt noZ (waj watm) (wab watn 0) := wbw (fun _ => rfl) fun _ _ => by kernel_rfl
theorem wbnr : waa watl tt noZ watm watn := wbd (by kernel_rfl) (lpC wbag lpN)
theorem wbec : waw prog (85, watk) := wae mixed (wz (fdC wpf fdN)) waf (wbc watk watl wbjd noZ watm watn (fun x => watj x.1.1 x.1.2.1 x.1.2.2.1) (fun r => ((r, ()), ())) func85 wbnr fun _ => by kernel_rfl)
theorem wbah : (wye).OK watp tt noZ (waj watq) (wab watr 0) := wbw (fun _ => rfl) fun _ _ => by kernel_rfl
theorem wbns : waa watp tt noZ watq watr := wbd (by kernel_rfl) (lpC wbah lpN)
theorem waia : waw prog (55, wafw) := wae mixed (wz (fdC wbec (fdC wpf fdN))) waf (wbc wafw watp wbje noZ watq watr (fun x => wato x.1.1.1 x.1.1.2.1) (fun r => ((r, ()), ())) func55 wbns fun _ => by kernel_rfl)
theorem waqm : waw prog (97, wame) := wae mixed (wz (fdC wie fdN)) waf (wbc wame (wac [(98, wmo)]) wbjf noZ [] ((f97.body).getD .skip) (fun x => wats x.1.2.1 x.2.1.1 x.2.1.2.1 x.2.1.2.2.1) (fun r => ((r.1, ()), ((r.2.1, (r.2.2.1, (r.2.2.2, ()))), ()))) func97 (wbd (by kernel_rfl) lpN) fun _ => by kernel_rfl)
theorem wbai : (wyf).OK watt tt noZ (waj watu) (wab watv 0) := wbw (fun _ => rfl) fun _ _ => by kernel_rfl
theorem wbnt : waa watt tt noZ watu watv := wbd (by kernel_rfl) (lpC wbai lpN)
theorem waqn : waw prog (86, wamf) := wae mixed (wz (fdN)) waf (wbc wamf watt wbjg noZ watu watv (fun x => wafx x.1.1 x.1.2.1) (fun r => (((), ()), (r, ()))) func86 wbnt fun _ => by kernel_rfl)
theorem wbaj : (wyg).OK waty tt noZ (waj watz) (wab waua 0) := wbw (fun _ => rfl) fun _ _ => by kernel_rfl
theorem wbnu : waa waty tt noZ watz waua := wbd (by kernel_rfl) (lpC wbaj lpN)
theorem wbed : waw prog (103, watx) := wae mixed (wz (fdC wpf fdN)) waf (wbc watx waty wbjh noZ watz waua (fun x => watw x.1.1 x.1.2.1 x.1.2.2.1) (fun r => ((r, ()), ())) func103 wbnu fun _ => by kernel_rfl)
theorem waqo : waw prog (73, wamh) := wae mixed (wz (fdC wbed fdN)) waf (wbc wamh (wac [(103, watx)]) wbji noZ [] ((f73.body).getD .skip) (fun x => waub x.1.1.1 x.1.1.2.1 x.1.2.1) (fun r => ((r, ()), ())) func73 (wbd (by kernel_rfl) lpN) fun _ => by kernel_rfl)
theorem waib : waw prog (47, waga) := wae mixed (wz (fdC waia (fdC waqo (fdC wpf fdN)))) waf (wbc waga (wac [(55, wafw), (73, wamh), (74, wsx)]) wbjj noZ [] ((f47.body).getD .skip) (fun x => wauc x.1.1.1 x.1.1.2.1 x.1.1.2.2.1 x.1.1.2.2.2.1) (fun r => ((r, ()), ())) func47 (wbd (by kernel_rfl) lpN) fun _ => by kernel_rfl)
theorem wbak : (wyh).OK waug tt wauf (waj wauh) (wab waui 0) := wbw (fun _ => rfl) fun _ _ => by kernel_rfl
theorem wbnv : waa waug tt wauf wauh waui := wbd (by kernel_rfl) (lpC wbak lpN)
theorem wbee : waw prog (125, waue) := wae mixed (wz (fdC wie (fdC waqm (fdC wtj fdN)))) waf (wbc waue waug wbjk wauf wauh waui (fun x => waud x.1.2.1 x.2.1.1 x.2.1.2.1 x.2.1.2.2.1) (fun r => (((), ()), (r.1, ((r.2.1, (r.2.2.1, (r.2.2.2, ()))), ())))) func125 wbnv fun _ => by kernel_rfl)
theorem wbef : waw prog (100, wauk) := wae mixed (wz (fdC wie (fdC wahz (fdC wahy (fdC wtj (fdC wbee fdN)))))) waf (wbc wauk (wac [(98, wmo), (68, wafn), (109, wafb), (101, wvf), (125, waue)]) wbjl wbjm [] ((f100.body).getD .skip) (fun x => wami x.1.2.1.1 x.1.2.1.2.1 x.2.1.1 x.2.1.2.1 x.2.1.2.2.1) (fun r => (((r.1, (r.2.1, (r.2.2.1, (r.2.2.2.1, ((), ()))))), ()), (r.2.2.2.2.1, ((r.2.2.2.2.2.1, (r.2.2.2.2.2.2.1, (r.2.2.2.2.2.2.2, ()))), ())))) func100 (wbd (by kernel_rfl) lpN) fun _ => by kernel_rfl)
theorem wbeg : waw prog (122, waum) := wae mixed (wz (fdN)) waf (wbc waum (wac []) wbjn noZ [] ((f122.body).getD .skip) (fun x => waul x.1.1.1 x.1.1.2.1 x.1.1.2.2.1 x.1.1.2.2.2.1 x.1.1.2.2.2.2.1) (fun r => ((r, ()), ())) func122 (wbd (by kernel_rfl) lpN) fun _ => by kernel_rfl)
theorem waqp : waw prog (145, wamk) := wae mixed (wz (fdC wpf fdN)) waf (wbc wamk (wac [(74, wsx)]) wbjo noZ [] ((f145.body).getD .skip) (fun x => waun x.1.1.1 x.1.1.2.1 x.1.2.1) (fun r => ((r, ()), ())) func145 (wbd (by kernel_rfl) lpN) fun _ => by kernel_rfl)
theorem wbal : (wyi).OK waup tt noZ (waj wauq) (wab waur 0) := wbw (fun _ => rfl) fun _ _ => by kernel_rfl
theorem wbnw : waa waup tt noZ wauq waur := wbd (by kernel_rfl) (lpC wbal lpN)
theorem waic : waw prog (144, wagd) := wae mixed (wz (fdN)) waf (wbc wagd waup wbjp noZ wauq waur (fun x => wauo x.1.1 x.1.2.1) (fun r => ((r, ()), ())) func144 wbnw fun _ => by kernel_rfl)
theorem wbeh : waw prog (143, waut) := wae mixed (wz (fdC waqp (fdC waic fdN))) waf (wbc waut (wac [(145, wamk), (144, wagd)]) wbjq noZ [] ((f143.body).getD .skip) (fun x => waus x.1.1.1 x.1.1.2.1 x.1.1.2.2.1 x.1.1.2.2.2.1 x.1.2.1) (fun r => ((r, ()), ())) func143 (wbd (by kernel_rfl) lpN) fun _ => by kernel_rfl)
theorem wbei : waw prog (123, wauv) := wae mixed (wz (fdC wbeh (fdC waic (fdC waqp (fdC wpf fdN))))) waf (wbc wauv (wac [(143, waut), (144, wagd), (145, wamk), (74, wsx)]) wbjr noZ [] ((f123.body).getD .skip) (fun x => wauu x.1.1.1 x.1.1.2.1 x.1.1.2.2.1 x.1.1.2.2.2.1 x.1.2.1.1 x.1.2.1.2.1 x.1.2.1.2.2.1 x.1.2.1.2.2.2.1 x.1.2.1.2.2.2.2.1) (fun r => ((r, ()), ())) func123 (wbd (by kernel_rfl) lpN) fun _ => by kernel_rfl)
theorem wbam : (wyj).OK wauy tt waux (waj wauz) (wab wava 0) := wbw (fun _ => rfl) fun _ _ => by kernel_rfl
theorem wbnx : waa wauy tt waux wauz wava := wbd (by kernel_rfl) (lpC wbam lpN)
theorem waqq : waw prog (146, wamm) := wae mixed (wz (fdC wpe fdN)) waf (wbc wamm wauy wbjs waux wauz wava (fun x => wauw x.1.1.1 x.1.1.2.1 x.1.1.2.2.1 x.1.1.2.2.2.1) (fun r => ((((), ((), ((), (r.1, ())))), ()), (r.2.1, (r.2.2.1, (r.2.2.2, ()))))) func146 wbnx fun _ => by kernel_rfl)
theorem wban : (wyk).OK wavd tt wavc (waj wave) (wab wavf 0) := wbw (fun _ => rfl) fun _ _ => by kernel_rfl
theorem wbny : waa wavd tt wavc wave wavf := wbd (by kernel_rfl) (lpC wban lpN)
theorem waqr : waw prog (147, wamn) := wae mixed (wz (fdN)) waf (wbc wamn wavd wbjt wavc wave wavf (fun x => wavb x.1.1 x.1.2.1) (fun r => (((), ()), (r, ()))) func147 wbny fun _ => by kernel_rfl)
theorem wbao : (wyl).OK wavh tt noZ (waj wavi) (wab wavj 0) := wbw (fun _ => rfl) fun _ _ => by kernel_rfl
theorem wbnz : waa wavh tt noZ wavi wavj := wbd (by kernel_rfl) (lpC wbao lpN)
theorem waqs : waw prog (148, wamo) := wae mixed (wz (fdN)) waf (wbc wamo wavh wbju noZ wavi wavj (fun x => wavg x.1.1 x.1.2.1) (fun r => (((), ()), (r, ()))) func148 wbnz fun _ => by kernel_rfl)
theorem wbej : waw prog (159, wavl) := wae mixed (wz (fdC wpe fdN)) waf (wbc wavl (wac [(140, wsw)]) wbjv noZ [] ((f159.body).getD .skip) (fun x => wavk x.1.1 x.1.2.1) (fun r => (((), ()), (r, ()))) func159 (wbd (by kernel_rfl) lpN) fun _ => by kernel_rfl)
theorem wbap : (wym).OK wamq tt noZ (waj wamr) (wab wams 0) := wbw (fun _ => rfl) fun _ _ => by kernel_rfl
theorem wbaq : (wyn).OK wamq tt noZ (waj wamr) (wab wams 2) := wbw (fun _ => rfl) fun _ _ => by kernel_rfl
theorem wboa : waa wamq tt noZ wamr wams := wbd (by kernel_rfl) (lpC wbap (lpC wbaq lpN))
theorem wbek : waw prog (149, wavn) := wae mixed (wz (fdC waqq (fdC wbej fdN))) waf (wbc wavn wamq wbjw noZ wamr wams (fun x => wavm x.1.1.1 x.1.1.2.1 x.1.1.2.2.1 x.1.1.2.2.2.1 x.1.2.1) (fun r => ((((), ((), ((), (r.1, ())))), ()), (r.2.1, (r.2.2.1, (r.2.2.2, ()))))) func149 wboa fun _ => by kernel_rfl)
theorem wbel : waw prog (160, wavp) := wae mixed (wz (fdC waia (fdC waqo fdN))) waf (wbc wavp (wac [(55, wafw), (73, wamh)]) wbjx noZ [] ((f160.body).getD .skip) (fun x => wavo x.1.1.1 x.1.1.2.1 x.1.2.1) (fun r => ((r, ()), ())) func160 (wbd (by kernel_rfl) lpN) fun _ => by kernel_rfl)
theorem wbar : (wyo).OK wagm tt wagl (waj wagn) (wab wago 2) := wbw (fun _ => rfl) fun _ _ => by kernel_rfl
theorem wvt : (wkp).OK wagm tt wagl (waj wagn) (wab wago 2) := wbw (fun _ => rfl) fun _ _ => by kernel_rfl
theorem wbas : (wyp).OK wagm tt wagl (waj wagn) (wab wago 0) := wbw (fun _ => rfl) fun _ _ => by kernel_rfl
theorem wbob : waa wagm tt wagl wagn wago := wbd (by kernel_rfl) (lpC wbar (lpC wvt (lpC wbas lpN)))
theorem wbem : waw prog (163, wavr) := wae mixed (wz (fdC waic (fdC waqr (fdC waqs fdN)))) waf (wbc wavr wagm wbjy wagl wagn wago (fun x => wavq x.1.1.1 x.1.1.2.1 x.1.2.1) (fun r => (((), ()), (r, ()))) func163 wbob fun _ => by kernel_rfl)
theorem wbat : (wyq).OK wavu tt noZ (waj wavv) (wab wavw 0) := wbw (fun _ => rfl) fun _ _ => by kernel_rfl
theorem wboc : waa wavu tt noZ wavv wavw := wbd (by kernel_rfl) (lpC wbat lpN)
theorem wben : waw prog (126, wavt) := wae mixed (wz (fdN)) waf (wbc wavt wavu wbjz noZ wavv wavw (fun x => wavs x.1.1.1 x.1.1.2.1 x.1.2.1 x.1.2.2.1) (fun r => ((r, ()), ())) func126 wboc fun _ => by kernel_rfl)
theorem wbeo : waw prog (104, wavy) := wae mixed (wz (fdC wben fdN)) waf (wbc wavy (wac [(126, wavt)]) wbka noZ [] ((f104.body).getD .skip) (fun x => wavx x.1.1.1 x.1.1.2.1 x.1.2.1 x.1.2.2.1) (fun r => ((r, ()), ())) func104 (wbd (by kernel_rfl) lpN) fun _ => by kernel_rfl)
theorem wbau : (wyr).OK wawb tt noZ (waj wawc) (wab wawd 0) := wbw (fun _ => rfl) fun _ _ => by kernel_rfl
theorem wbod : waa wawb tt noZ wawc wawd := wbd (by kernel_rfl) (lpC wbau lpN)
theorem wbep : waw prog (75, wawa) := wae mixed (wz (fdC wbeo fdN)) waf (wbc wawa wawb wbkb noZ wawc wawd (fun x => wavz x.1.1.1 x.1.1.2.1 x.1.2.1) (fun r => ((r, ()), ())) func75 wbod fun _ => by kernel_rfl)
theorem wbav : (wys).OK wawg tt noZ (waj wawh) (wab wawi 0) := wbw (fun _ => rfl) fun _ _ => by kernel_rfl
theorem wboe : waa wawg tt noZ wawh wawi := wbd (by kernel_rfl) (lpC wbav lpN)
theorem wbeq : waw prog (76, wawf) := wae mixed (wz (fdN)) waf (wbc wawf wawg wbkc noZ wawh wawi (fun x => wawe x.1.1.1 x.1.1.2.1 x.1.2.1) (fun r => ((r, ()), ())) func76 wboe fun _ => by kernel_rfl)
theorem waid : waw prog (48, wagr) := wae mixed (wz (fdC wbep (fdC wbeq fdN))) waf (wbc wagr (wac [(75, wawa), (76, wawf)]) wbkd noZ [] ((f48.body).getD .skip) (fun x => wawj x.1.1.1 x.1.1.2.1 x.1.2.1) (fun r => ((r, ()), ())) func48 (wbd (by kernel_rfl) lpN) fun _ => by kernel_rfl)
theorem wbaw : (wyt).OK wawm tt noZ (waj wawn) (wab wawo 0) := wbw (fun _ => rfl) fun _ _ => by kernel_rfl
theorem wbof : waa wawm tt noZ wawn wawo := wbd (by kernel_rfl) (lpC wbaw lpN)
theorem wber : waw prog (161, wawl) := wae mixed (wz (fdC wbem (fdC waid fdN))) waf (wbc wawl wawm wbke noZ wawn wawo (fun x => wawk x.1.1.1 x.1.1.2.1 x.1.2.1) (fun r => (((), (r.1, ())), (r.2, ()))) func161 wbof fun _ => by kernel_rfl)
theorem wbax : (wyu).OK wawr tt noZ (waj waws) (wab wawt 0) := wbw (fun _ => rfl) fun _ _ => by kernel_rfl
theorem wbog : waa wawr tt noZ waws wawt := wbd (by kernel_rfl) (lpC wbax lpN)
theorem wbes : waw prog (150, wawq) := wae mixed (wz (fdC wbel (fdC wpe (fdC wber fdN)))) waf (wbc wawq wawr wbkf noZ waws wawt (fun x => wawp x.1.1.1 x.1.1.2.1 x.1.2.1) (fun r => (((), (r.1, (r.2.1, ()))), (r.2.2, ()))) func150 wbog fun _ => by kernel_rfl)
theorem wbay : (wyv).OK wawv tt noZ (waj waww) (wab wawx 0) := wbw (fun _ => rfl) fun _ _ => by kernel_rfl
theorem wboh : waa wawv tt noZ waww wawx := wbd (by kernel_rfl) (lpC wbay lpN)
theorem wbet : waw prog (87, wawu) := wae mixed (wz (fdN)) waf (wbc wawu wawv wbkg noZ waww wawx (fun x => wana x.1.1 x.1.2.1) (fun r => ((r, ()), ())) func87 wboh fun _ => by kernel_rfl)
theorem wbaz : (wyw).OK wane tt wand (waj wanf) (wab wang 2) := wbw (fun _ => rfl) fun _ _ => by kernel_rfl
theorem wbba : (wyx).OK wane tt wand (waj wanf) (wab wang 0) := wbw (fun _ => rfl) fun _ _ => by kernel_rfl
theorem wboi : waa wane tt wand wanf wang := wbd (by kernel_rfl) (lpC wbaz (lpC wbba lpN))
theorem wbeu : waw prog (57, wawy) := wae mixed (wz (fdC waqn (fdC wbet fdN))) waf (wbc wawy wane wbkh wand wanf wang (fun x => wanc x.1.1) (fun r => ((r, ()), ())) func57 wboi fun _ => by kernel_rfl)
theorem wbbb : (wyy).OK waxb tt noZ (waj waxc) (wab waxd 0) := wbw (fun _ => rfl) fun _ _ => by kernel_rfl
theorem wboj : waa waxb tt noZ waxc waxd := wbd (by kernel_rfl) (lpC wbbb lpN)
theorem wbev : waw prog (151, waxa) := wae mixed (wz (fdC wbeu (fdC waid fdN))) waf (wbc waxa waxb wbki noZ waxc waxd (fun x => wawz x.1.1.1 x.1.1.2.1) (fun r => ((r, ()), ())) func151 wboj fun _ => by kernel_rfl)
theorem wbbc : (wyz).OK waxg tt noZ (waj waxh) (wab waxi 1) := wbw (fun _ => rfl) fun _ _ => by kernel_rfl
theorem wbok : waa waxg tt noZ waxh waxi := wbd (by kernel_rfl) (lpC wbbc lpN)
theorem wbew : waw prog (124, waxf) := wae mixed (wz (fdC waqq (fdC waqr (fdC waqs (fdC wpe (fdC wbek (fdC wbes (fdC wbev fdN)))))))) waf (wbc waxf waxg wbkj noZ waxh waxi (fun x => waxe x.1.1.1 x.1.1.2.1 x.1.1.2.2.1 x.1.1.2.2.2.1 x.1.2.1.1 x.1.2.1.2.1 x.1.2.1.2.2.1 x.1.2.1.2.2.2.1 x.1.2.1.2.2.2.2.1) (fun r => ((((), ((), ((), (r.1, ())))), ()), (r.2.1, (r.2.2.1, (r.2.2.2, ()))))) func124 wbok fun _ => by kernel_rfl)
theorem wbex : waw prog (99, waxk) := wae mixed (wz (fdC wbeg (fdC wbei (fdC wbew (fdC waib fdN))))) waf (wbc waxk (wac [(122, waum), (123, wauv), (124, waxf), (47, waga)]) wbkk noZ [] ((f99.body).getD .skip) (fun x => waxj x.1.1.1 x.1.1.2.1 x.1.1.2.2.1 x.1.1.2.2.2.1 x.1.2.1.1 x.1.2.1.2.1 x.1.2.1.2.2.1 x.1.2.1.2.2.2.1 x.1.2.1.2.2.2.2.1) (fun r => ((((), ((), ((), (r.1, ())))), (r.2.1, ())), (r.2.2.1, (r.2.2.2.1, (r.2.2.2.2, ()))))) func99 (wbd (by kernel_rfl) lpN) fun _ => by kernel_rfl)
theorem wbbd : (wza).OK waxo tt waxn (waj waxp) (wab waxq 0) := wbw (fun _ => rfl) fun _ _ => by kernel_rfl
theorem wbol : waa waxo tt waxn waxp waxq := wbd (by kernel_rfl) (lpC wbbd lpN)
theorem wbey : waw prog (67, waxm) := wae mixed (wz (fdC wbeb (fdC waia (fdC waqm (fdC wie (fdC waqn (fdC waib (fdC wbef (fdC wbex (fdC wtj fdN)))))))))) waf (wbc waxm waxo wbkl waxn waxp waxq (fun x => wank x.2.1.1 x.2.1.2.1 x.2.1.2.2.1) (fun r => (((r.1, (r.2.1, ((), (r.2.2.1, ())))), ()), (r.2.2.2.1, ((r.2.2.2.2.1, (r.2.2.2.2.2.1, (r.2.2.2.2.2.2, ()))), ())))) func67 wbol fun _ => by kernel_rfl)
theorem wbez : waw prog (41, waxs) := wae mixed (wz (fdC wbey fdN)) waf (wbc waxs (wac [(67, waxm)]) wbkm noZ [] ((f41.body).getD .skip) (fun x => waxr x.1.1) (fun r => (((r.1, (r.2.1, ((), (r.2.2.1, ())))), ()), (r.2.2.2, ()))) func41 (wbd (by kernel_rfl) lpN) fun _ => by kernel_rfl)
theorem wbfa : waw prog (21, waxu) := wae mixed (wz (fdC wbez fdN)) waf (wbc waxu (wac [(41, waxs)]) wbkn noZ [] ((f21.body).getD .skip) (fun x => waxt x.1.1) (fun r => (((r.1, (r.2.1, ((), (r.2.2.1, ())))), ()), (r.2.2.2, ()))) func21 (wbd (by kernel_rfl) lpN) fun _ => by kernel_rfl)
theorem waob : waw prog (71, D_zu) := wae mixed (wz (fdN)) waf (wbc D_zu (wac []) K_zu noZ [] ((f71.body).getD .skip) (fun x => T_zu x.1.1 x.1.2.1 x.1.2.2.1) (fun r => ((r, ()), ())) func71 (wbd (by kernel_rfl) lpN) fun _ => by kernel_rfl)
theorem wbbe : (wzb).OK waxy tt noZ (waj waxz) (wab waya 0) := wbw (fun _ => rfl) fun _ _ => by kernel_rfl
theorem wbom : waa waxy tt noZ waxz waya := wbd (by kernel_rfl) (lpC wbbe lpN)
theorem wbfb : waw prog (127, waxx) := wae mixed (wz (fdN)) waf (wbc waxx waxy wbkp noZ waxz waya (fun x => waxw x.1.1 x.1.2.1) (fun r => ((r, ()), ())) func127 wbom fun _ => by kernel_rfl)
theorem waqt : waw prog (105, wanp) := wae mixed (wz (fdC wbfb fdN)) waf (wbc wanp (wac [(127, waxx)]) wbkq noZ [] ((f105.body).getD .skip) (fun x => wayb x.1.1 x.1.2.1) (fun r => ((r, ()), ())) func105 (wbd (by kernel_rfl) lpN) fun _ => by kernel_rfl)
theorem wbon : waw prog (106, D_zt) := wae mixed (wz (fdC waob fdN)) waf (wbc D_zt (wac [(71, D_zu)]) K_zt noZ [] ((f106.body).getD .skip) (fun x => T_zt x.1.1 x.1.2.1.1 x.1.2.2.1.1) (fun r => ((r, ()), ())) func106 (wbd (by kernel_rfl) lpN) fun _ => by kernel_rfl)
theorem wbbf : waw prog (77, D_zs) := wae mixed (wz (fdC waqt (fdC waqt (fdC wbon fdN)))) waf (wbc D_zs (wac [(105, wanp), (105, wanp), (106, D_zt)]) K_zs noZ [] ((f77.body).getD .skip) (fun x => T_zs x.1.1 x.1.2.1 x.1.2.2.1) (fun r => ((r, ()), ())) func77 (wbd (by kernel_rfl) lpN) fun _ => by kernel_rfl)
theorem wbbg : (wzc).OK waye tt noZ (waj wayf) (wab wayg 0) := wbw (fun _ => rfl) fun _ _ => by kernel_rfl
theorem wboo : waa waye tt noZ wayf wayg := wbd (by kernel_rfl) (lpC wbbg lpN)
theorem wbfc : waw prog (107, wayd) := wae mixed (wz (fdN)) waf (wbc wayd waye wbkv noZ wayf wayg (fun x => wayc x.1.1 x.1.2.1) (fun r => ((r, ()), ())) func107 wboo fun _ => by kernel_rfl)
theorem waqu : waw prog (78, wans) := wae mixed (wz (fdC wbfc fdN)) waf (wbc wans (wac [(107, wayd)]) wbkw noZ [] ((f78.body).getD .skip) (fun x => wayh x.1.1 x.1.2.1) (fun r => ((r, ()), ())) func78 (wbd (by kernel_rfl) lpN) fun _ => by kernel_rfl)
theorem wbop : waw prog (79, D_zp) := wae mixed (wz (fdC wbbf fdN)) waf (wbc D_zp (wac [(77, D_zs)]) K_zp noZ [] ((f79.body).getD .skip) (fun x => T_zp x.1.1 x.1.2.1.1 x.1.2.1.2.1) (fun r => ((r, ()), ())) func79 (wbd (by kernel_rfl) lpN) fun _ => by kernel_rfl)
theorem waoc : waw prog (49, D_zo) := wae mixed (wz (fdC waob (fdC wbbf (fdC waqu (fdC waqu (fdC wbop fdN)))))) waf (wbc D_zo (wac [(71, D_zu), (77, D_zs), (78, wans), (78, wans), (79, D_zp)]) K_zo noZ [] ((f49.body).getD .skip) (fun x => T_zo x.1.1.1 x.1.1.2.1) (fun r => ((r, ()), ())) func49 (wbd (by kernel_rfl) lpN) fun _ => by kernel_rfl)
theorem wbfd : (wagy).OK E_zy tt noZ (waj O_zy) (wab C_zy 0) := wbw (fun _ => rfl) fun _ _ => by kernel_rfl
theorem o_zy : waa E_zy tt noZ O_zy C_zy := wbd (by kernel_rfl) (lpC wbfd lpN)
theorem wbfe : waw prog (70, D_zy) := wae mixed (wz (fdC waob fdN)) waf (wbc D_zy E_zy K_zy noZ O_zy C_zy (fun x => T_zy x.1.1 x.1.2.1) (fun r => ((r, ()), ())) func70 o_zy fun _ => by kernel_rfl)
theorem wboq : waw prog (45, D_zn) := wae mixed (wz (fdC waoc (fdC wbfe (fdC waob fdN)))) waf (wbc D_zn (wac [(49, D_zo), (70, D_zy), (71, D_zu)]) K_zn noZ [] ((f45.body).getD .skip) (fun x => T_zn x.1.1.1 x.1.1.2.1 x.1.1.2.2.1 x.1.1.2.2.2.1) (fun r => ((r, ()), ())) func45 (wbd (by kernel_rfl) lpN) fun _ => by kernel_rfl)
theorem wbff : waw prog (53, D_zf) := wae mixed (wz (fdC wbfe fdN)) waf (wbc D_zf (wac [(70, D_zy)]) K_zf noZ [] ((f53.body).getD .skip) (fun x => T_zf x.1.1.1 x.1.1.2.1 x.1.2.1) (fun r => ((r, ()), ())) func53 (wbd (by kernel_rfl) lpN) fun _ => by kernel_rfl)
theorem wbor : waw prog (72, D_zw) := wae mixed (wz (fdC waoc (fdC wbff fdN))) waf (wbc D_zw (wac [(49, D_zo), (53, D_zf)]) K_zw noZ [] ((f72.body).getD .skip) (fun x => T_zw x.1.1.1 x.1.1.2.1 x.1.2.1) (fun r => ((r, ()), ())) func72 (wbd (by kernel_rfl) lpN) fun _ => by kernel_rfl)
theorem wbfg : (wagz).OK E_zh tt noZ (waj O_zh) (wab C_zh 0) := wbw (fun _ => rfl) fun _ _ => by kernel_rfl
theorem o_zh : waa E_zh tt noZ O_zh C_zh := wbd (by kernel_rfl) (lpC wbfg lpN)
theorem wbos : waw prog (83, D_zh) := wae mixed (wz (fdN)) waf (wbc D_zh E_zh K_zh noZ O_zh C_zh (fun x => T_zh x.1.1.1 x.1.1.2.1 x.1.2.1) (fun r => ((r, ()), ())) func83 o_zh fun _ => by kernel_rfl)
theorem wbfh : (waha).OK E_zk tt noZ (waj O_zk) (wab C_zk 0) := wbw (fun _ => rfl) fun _ _ => by kernel_rfl
theorem o_zk : waa E_zk tt noZ O_zk C_zk := wbd (by kernel_rfl) (lpC wbfh lpN)
theorem wbot : waw prog (152, D_zk) := wae mixed (wz (fdN)) waf (wbc D_zk E_zk K_zk noZ O_zk C_zk (fun x => T_zk x.1.1.1 x.1.1.2.1 x.1.2.1 x.1.2.2.1) (fun r => ((r, ()), ())) func152 o_zk fun _ => by kernel_rfl)
theorem wbfi : (wahb).OK E_zj tt noZ (waj O_zj) (wab C_zj 0) := wbw (fun _ => rfl) fun _ _ => by kernel_rfl
theorem o_zj : waa E_zj tt noZ O_zj C_zj := wbd (by kernel_rfl) (lpC wbfi lpN)
theorem wbou : waw prog (128, D_zj) := wae mixed (wz (fdC wbot fdN)) waf (wbc D_zj E_zj K_zj noZ O_zj C_zj (fun x => T_zj x.1.1.1 x.1.1.2.1 x.1.2.1) (fun r => (((), ()), (r, ()))) func128 o_zj fun _ => by kernel_rfl)
theorem wbfj : (wahc).OK E_zg tt noZ (waj O_zg) (wab C_zg 0) := wbw (fun _ => rfl) fun _ _ => by kernel_rfl
theorem o_zg : waa E_zg tt noZ O_zg C_zg := wbd (by kernel_rfl) (lpC wbfj lpN)
theorem wbov : waw prog (108, D_zg) := wae mixed (wz (fdC wbou fdN)) waf (wbc D_zg E_zg K_zg noZ O_zg C_zg (fun x => T_zg x.1.1.1 x.1.1.2.1 x.1.2.1) (fun r => (((), ()), (r, ()))) func108 o_zg fun _ => by kernel_rfl)
theorem wbfk : (wahe).OK E_zz tt noZ (waj O_zz) (wab C_zz 0) := wbw (fun _ => rfl) fun _ _ => by kernel_rfl
theorem o_zz : waa E_zz tt noZ O_zz C_zz := wbd (by kernel_rfl) (lpC wbfk lpN)
theorem wbbh : waw prog (42, D_zz) := wae mixed (wz (fdN)) waf (wbc D_zz E_zz K_zz noZ O_zz C_zz (fun x => T_zz x.1.1) (fun r => ((r, ()), ())) func42 o_zz fun _ => by kernel_rfl)
theorem wbow : waw prog (84, D_zl) := wae mixed (wz (fdC wbov (fdC wbbh fdN))) waf (wbc D_zl (wac [(108, D_zg), (42, D_zz)]) K_zl noZ [] ((f84.body).getD .skip) (fun x => T_zl x.1.1.1 x.1.1.2.1 x.1.2.1) (fun r => ((r, ()), ())) func84 (wbd (by kernel_rfl) lpN) fun _ => by kernel_rfl)
theorem wbfl : waw prog (54, D_zm) := wae mixed (wz (fdC wbos (fdC wbow fdN))) waf (wbc D_zm (wac [(83, D_zh), (84, D_zl)]) K_zm noZ [] ((f54.body).getD .skip) (fun x => T_zm x.1.1.1 x.1.1.2.1 x.1.2.1) (fun r => ((r, ()), ())) func54 (wbd (by kernel_rfl) lpN) fun _ => by kernel_rfl)
theorem wbox : waw prog (46, D_zr) := wae mixed (wz (fdC wbor (fdC wbfl fdN))) waf (wbc D_zr (wac [(72, D_zw), (54, D_zm)]) K_zr noZ [] ((f46.body).getD .skip) (fun x => T_zr x.1.1.1 x.1.1.2.1 x.1.2.1) (fun r => ((r.1, (r.2, ())), ())) func46 (wbd (by kernel_rfl) lpN) fun _ => by kernel_rfl)
theorem wbfm : waw prog (24, D_zc) := wae mixed (wz (fdC wboq (fdC wbox fdN))) waf (wbc D_zc (wac [(45, D_zn), (46, D_zr)]) K_zc noZ [] ((f24.body).getD .skip) (fun x => T_zc x.1.1.1 x.1.1.2.1 x.1.1.2.2.1 x.1.1.2.2.2.1) (fun r => ((r.1, (r.2, ())), ())) func24 (wbd (by kernel_rfl) lpN) fun _ => by kernel_rfl)
theorem wbbi : (wzd).OK wayk tt noZ (waj wayl) (wab waym 0) := wbw (fun _ => rfl) fun _ _ => by kernel_rfl
theorem wboy : waa wayk tt noZ wayl waym := wbd (by kernel_rfl) (lpC wbbi lpN)
theorem waqv : waw prog (50, wanu) := wae mixed (wz (fdN)) waf (wbc wanu wayk wbmm noZ wayl waym (fun x => wayj x.1.1) (fun r => ((r, ()), ())) func50 wboy fun _ => by kernel_rfl)
theorem wbfn : (wahh).OK E_ze tt noZ (waj O_ze) (wab C_ze 2) := wbw (fun _ => rfl) fun _ _ => by kernel_rfl
theorem wbfo : (wahi).OK E_ze tt noZ (waj O_ze) (wab C_ze 0) := wbw (fun _ => rfl) fun _ _ => by kernel_rfl
theorem o_ze : waa E_ze tt noZ O_ze C_ze := wbd (by kernel_rfl) (lpC wbfn (lpC wbfo lpN))
theorem wboz : waw prog (80, D_ze) := wae mixed (wz (fdN)) waf (wbc D_ze E_ze K_ze noZ O_ze C_ze (fun x => T_ze x.1.1.1 x.1.1.2.1 x.1.2.1 x.1.2.2.1) (fun r => (((), ()), (r, ()))) func80 o_ze fun _ => by kernel_rfl)
theorem wbfp : (wahj).OK E_zi tt noZ (waj O_zi) (wab C_zi 0) := wbw (fun _ => rfl) fun _ _ => by kernel_rfl
theorem o_zi : waa E_zi tt noZ O_zi C_zi := wbd (by kernel_rfl) (lpC wbfp lpN)
theorem wbfq : waw prog (51, D_zi) := wae mixed (wz (fdC wboz fdN)) waf (wbc D_zi E_zi K_zi noZ O_zi C_zi (fun x => T_zi x.1.1.1 x.1.1.2.1 x.1.2.1) (fun r => (((), ()), (r, ()))) func51 o_zi fun _ => by kernel_rfl)
theorem wbfr : (wahl).OK E_za tt noZ (waj O_za) (wab C_za 0) := wbw (fun _ => rfl) fun _ _ => by kernel_rfl
theorem wbfs : (wahm).OK E_za tt noZ (waj O_za) (wab C_za 6) := wbw (fun _ => rfl) fun _ _ => by kernel_rfl
theorem wbft : (wahn).OK E_za tt noZ (waj O_za) (wab C_za 4) := wbw (fun _ => rfl) fun _ _ => by kernel_rfl
theorem wbfu : (waho).OK E_za tt noZ (waj O_za) (wab C_za 2) := wbw (fun _ => rfl) fun _ _ => by kernel_rfl
theorem o_za : waa E_za tt noZ O_za C_za := wbd (by kernel_rfl) (lpC wbfr (lpC wbfs (lpC wbft (lpC wbfu lpN))))
theorem wbfv : waw prog (26, D_za) := wae mixed (wz (fdC waoc (fdC waqv (fdC wbfq fdN)))) waf (wbc D_za E_za K_za noZ O_za C_za (fun x => T_za x.1.1.1 x.1.1.2.1) (fun r => (((), (r.1, ())), (r.2, ()))) func26 o_za fun _ => by kernel_rfl)
theorem wbpa : waw prog (22, D_zb) := wae mixed (wz (fdC wbfm (fdC wbfv (fdC wbbh fdN)))) waf (wbc D_zb (wac [(24, D_zc), (26, D_za), (42, D_zz)]) K_zb noZ [] ((f22.body).getD .skip) (fun x => T_zb x.1.1.1 x.1.1.2.1 x.1.1.2.2.1 x.1.1.2.2.2.1) (fun r => ((r.1, (r.2, ())), ())) func22 (wbd (by kernel_rfl) lpN) fun _ => by kernel_rfl)
theorem waqw : waw prog (25, wanv) := wae mixed (wz (fdC waib (fdC waid fdN))) waf (wbc wanv (wac [(47, waga), (48, wagr)]) wbmv noZ [] ((f25.body).getD .skip) (fun x => wayn x.1.1.1 x.1.1.2.1 x.1.1.2.2.1 x.1.1.2.2.2.1) (fun r => ((r.1, (r.2, ())), ())) func25 (wbd (by kernel_rfl) lpN) fun _ => by kernel_rfl)
theorem wbbj : (wze).OK wayq tt noZ (waj wayr) (wab wayt 0) := wbw (fun _ => rfl) fun _ _ => by kernel_rfl
theorem wbpb : waa wayq tt noZ wayr wayt := wbd (by kernel_rfl) (lpC wbbj lpN)
theorem wbfw : waw prog (102, wayp) := wae mixed (wz (fdC wahy fdN)) waf (wbc wayp wayq wbmw noZ wayr wayt (fun x => wayo x.1.1.1 x.1.1.2.1 x.1.2.1 x.1.2.2.1 x.1.2.2.2.1) (fun r => ((r, ()), ())) func102 wbpb fun _ => by kernel_rfl)
theorem wbbk : (wzf).OK wayw tt noZ (waj wayx) (wab wayy 0) := wbw (fun _ => rfl) fun _ _ => by kernel_rfl
theorem wbpc : waa wayw tt noZ wayx wayy := wbd (by kernel_rfl) (lpC wbbk lpN)
theorem wbfx : waw prog (69, wayv) := wae mixed (wz (fdC wbfw fdN)) waf (wbc wayv wayw wbmx noZ wayx wayy (fun x => wayu x.1.1.1 x.1.1.2.1 x.1.2.1 x.1.2.2.1) (fun r => ((r, ()), ())) func69 wbpc fun _ => by kernel_rfl)
theorem wbbl : (wzg).OK wabm tt noZ (waj wabn) (wab wabo 2) := wbw (fun _ => rfl) fun _ _ => by kernel_rfl
theorem wbbm : (wzh).OK wabm tt noZ (waj wabn) (wab wabo 0) := wbw (fun _ => rfl) fun _ _ => by kernel_rfl
theorem wbbn : (wzi).OK wabm tt noZ (waj wabn) (wab wabo 6) := wbw (fun _ => rfl) fun _ _ => by kernel_rfl
theorem wbbo : (wzj).OK wabm tt noZ (waj wabn) (wab wabo 4) := wbw (fun _ => rfl) fun _ _ => by kernel_rfl
theorem wbpd : waa wabm tt noZ wabn wabo := wbd (by kernel_rfl) (lpC wbbl (lpC wbbm (lpC wbbn (lpC wbbo lpN))))
theorem wbfy : waw prog (44, waza) := wae mixed (wz (fdC wahz (fdC wbfx fdN))) waf (wbc waza wabm wbmy noZ wabn wabo (fun x => wayz x.1.1.1 x.1.1.2.1) (fun r => (((), ()), (r, ()))) func44 wbpd fun _ => by kernel_rfl)
theorem wbbp : (wzk).OK wazd tt noZ (waj waze) (wab wazf 0) := wbw (fun _ => rfl) fun _ _ => by kernel_rfl
theorem wbpe : waa wazd tt noZ waze wazf := wbd (by kernel_rfl) (lpC wbbp lpN)
theorem wbfz : waw prog (43, wazc) := wae mixed (wz (fdN)) waf (wbc wazc wazd wbmz noZ waze wazf (fun x => wazb x.1.1) (fun r => ((r, ()), ())) func43 wbpe fun _ => by kernel_rfl)
theorem wbga : waw prog (23, wazg) := wae mixed (wz (fdC waqw (fdC wbfy (fdC wbfz fdN)))) waf (wbc wazg (wac [(25, wanv), (44, waza), (43, wazc)]) wbna noZ [] ((f23.body).getD .skip) (fun x => wanz x.1.1.1 x.1.1.2.1 x.1.1.2.2.1 x.1.1.2.2.2.1) (fun r => ((r.1, (r.2, ())), ())) func23 (wbd (by kernel_rfl) lpN) fun _ => by kernel_rfl)
theorem wbpf : waw prog (81, D_zx) := wae mixed (wz (fdC waoc (fdC wbbf fdN))) waf (wbc D_zx (wac [(49, D_zo), (77, D_zs)]) K_zx noZ [] ((f81.body).getD .skip) (fun x => T_zx x.1.1.1 x.1.1.2.1 x.1.2.1) (fun r => ((r, ()), ())) func81 (wbd (by kernel_rfl) lpN) fun _ => by kernel_rfl)
theorem wbpg : waw prog (82, D_zd) := wae mixed (wz (fdC wbfq (fdC waqv fdN))) waf (wbc D_zd (wac [(51, D_zi), (50, wanu)]) K_zd noZ [] ((f82.body).getD .skip) (fun x => T_zd x.1.1.1 x.1.1.2.1 x.1.2.1) (fun r => ((r, ()), ())) func82 (wbd (by kernel_rfl) lpN) fun _ => by kernel_rfl)
theorem wbph : waw prog (52, D_zv) := wae mixed (wz (fdC wbpf (fdC wbpg fdN))) waf (wbc D_zv (wac [(81, D_zx), (82, D_zd)]) K_zv noZ [] ((f52.body).getD .skip) (fun x => T_zv x.1.1.1 x.1.1.2.1 x.1.2.1) (fun r => ((r, ()), ())) func52 (wbd (by kernel_rfl) lpN) fun _ => by kernel_rfl)
theorem wbpi : waw prog (27, D_zq) := wae mixed (wz (fdC wbph (fdC wbff (fdC wbfl (fdC wbbh fdN))))) waf (wbc D_zq (wac [(52, D_zv), (53, D_zf), (54, D_zm), (42, D_zz)]) K_zq noZ [] ((f27.body).getD .skip) (fun x => T_zq x.1.1.1 x.1.1.2.1 x.1.2.1 x.1.2.2.1) (fun r => ((r.1, (r.2, ())), ())) func27 (wbd (by kernel_rfl) lpN) fun _ => by kernel_rfl)
theorem wbbq : (wzl).OK wazj tt noZ (waj wazk) (wab wazl 0) := wbw (fun _ => rfl) fun _ _ => by kernel_rfl
theorem wbpj : waa wazj tt noZ wazk wazl := wbd (by kernel_rfl) (lpC wbbq lpN)
theorem wbgb : waw prog (28, wazi) := wae mixed (wz (fdN)) waf (wbc wazi wazj wbnj noZ wazk wazl (fun x => wazh x.1.1) (fun r => ((r, ()), ())) func28 wbpj fun _ => by kernel_rfl)
theorem wbgc : waw prog (5, wazo) := wae mixed (wz (fdC wbdu (fdC wbfa (fdC wbpa (fdC wbga (fdC wbfm (fdC waqw (fdC wbfv (fdC wbpi (fdC wbgb fdN)))))))))) waf (wbc wazo (wac [(20, wash), (21, waxu), (22, D_zb), (23, wazg), (24, D_zc), (25, wanv), (26, D_za), (27, D_zq), (28, wazi)]) wbnk noZ [] ((f5.body).getD .skip) (fun x => wazm x.1.1) (fun r => ((r, ()), ())) func5 (wbd (by kernel_rfl) lpN) fun _ => by kernel_rfl)
end Go.Proofs.Ytnagpmhaddfgmaa
