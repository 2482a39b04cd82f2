import Derived.Test.YtnagpmhaddfgmaaGreatC1
namespace Go.Proofs.YtnagpmhaddfgmaaGreat
open Go.Proofs.Tryz
open List (length getD set)
open Int (toNat)
open IntKind (wrap)
theorem mixed : prog.follows .mixedOrders = true := by kernel_rfl
theorem wac : wam prog tt := wbls (by kernel_rfl)
theorem waci : wao prog (134, waek) := wad mixed (ww (fdN)) wac (war waek (waa []) wbtq noZ [] ((f134.body).getD .skip) (fun x => wayq x.1.1 x.1.2.1) (fun r => ((r, ()), ())) func134 (waq (by kernel_rfl) lpN) fun _ => by kernel_rfl)
theorem wbia : (waak).OK wayu tt noZ (wai wayv) (wae wayw 0) := wce (fun _ => rfl) fun _ _ => by kernel_rfl
theorem wbzm : wab wayu tt noZ wayv wayw := waq (by kernel_rfl) (lpC wbia lpN)
theorem wbmn : wao prog (208, wayt) := wad mixed (ww (fdC waci fdN)) wac (war wayt wayu wbtr noZ wayv wayw (fun x => wayr x.1.1 x.1.2.1) (fun r => ((r, ()), ())) func208 wbzm fun _ => by kernel_rfl)
theorem wbmo : wao prog (133, wayy) := wad mixed (ww (fdC waci (fdC wbmn fdN))) wac (war wayy (waa [(134, waek), (208, wayt)]) wbts noZ [] ((f133.body).getD .skip) (fun x => wayx x.1.1.1 x.1.1.2.1 x.1.2.1) (fun r => ((r, ()), ())) func133 (waq (by kernel_rfl) lpN) fun _ => by kernel_rfl)
theorem wbmp : wao prog (40, waza) := wad mixed (ww (fdC wbmo (fdC waci fdN))) wac (war waza (waa [(133, wayy), (134, waek)]) wbtt noZ [] ((f40.body).getD .skip) (fun x => wayz x.1.1.1 x.1.1.2.1 x.1.1.2.2.1 x.1.1.2.2.2.1 x.1.2.1) (fun r => ((r, ()), ())) func40 (waq (by kernel_rfl) lpN) fun _ => by kernel_rfl)
theorem wbmq : wao prog (41, wazb) := wad mixed (ww (fdC waci fdN)) wac (war wazb (waa [(134, waek)]) wbtu noZ [] ((f41.body).getD .skip) (fun x => wapn x.1.1.1 x.1.1.2.1 x.1.1.2.2.1 x.1.1.2.2.2.1 x.1.1.2.2.2.2.1 x.1.2.1) (fun r => ((r, ()), ())) func41 (waq (by kernel_rfl) lpN) fun _ => by kernel_rfl)
theorem wbib : (waal).OK wazd tt noZ (wai waze) (wae wazf 0) := wce (fun _ => rfl) fun _ _ => by kernel_rfl
theorem wbzn : wab wazd tt noZ waze wazf := waq (by kernel_rfl) (lpC wbib lpN)
theorem wacj : wao prog (138, waem) := wad mixed (ww (fdN)) wac (war waem wazd wbtv noZ waze wazf (fun x => wazc x.1.1) (fun r => (((), ()), (r, ()))) func138 wbzn fun _ => by kernel_rfl)
theorem wbic : (waam).OK wazj tt wazi (wai wazk) (wae wazl 0) := wce (fun _ => rfl) fun _ _ => by kernel_rfl
theorem wbzo : wab wazj tt wazi wazk wazl := waq (by kernel_rfl) (lpC wbic lpN)
theorem wbmr : wao prog (212, wazh) := wad mixed (ww (fdC wacj fdN)) wac (war wazh wazj wbtw wazi wazk wazl (fun x => wazg x.1.1) (fun r => (((), ()), (r, ()))) func212 wbzo fun _ => by kernel_rfl)
theorem wbms : wao prog (137, wazn) := wad mixed (ww (fdC wacj (fdC wbmr fdN))) wac (war wazn (waa [(138, waem), (212, wazh)]) wbtx noZ [] ((f137.body).getD .skip) (fun x => wazm x.1.1.1 x.1.1.2.1) (fun r => ((((), ((), ())), ()), (r.1, (r.2, ())))) func137 (waq (by kernel_rfl) lpN) fun _ => by kernel_rfl)
theorem wbmt : wao prog (43, wazp) := wad mixed (ww (fdC wbms (fdC wacj fdN))) wac (war wazp (waa [(137, wazn), (138, waem)]) wbty noZ [] ((f43.body).getD .skip) (fun x => wazo x.1.1.1 x.1.1.2.1 x.1.1.2.2.1 x.1.1.2.2.2.1) (fun r => ((((), ((), ((), (r.1, ())))), ()), (r.2.1, (r.2.2.1, (r.2.2.2, ()))))) func43 (waq (by kernel_rfl) lpN) fun _ => by kernel_rfl)
theorem wbmu : wao prog (44, wazr) := wad mixed (ww (fdC wacj fdN)) wac (war wazr (waa [(138, waem)]) wbtz noZ [] ((f44.body).getD .skip) (fun x => wazq x.1.1.1 x.1.1.2.1 x.1.1.2.2.1 x.1.1.2.2.2.1 x.1.1.2.2.2.2.1) (fun r => (((r.1, (r.2.1, (r.2.2.1, (r.2.2.2.1, ((), ()))))), ()), (r.2.2.2.2, ()))) func44 (waq (by kernel_rfl) lpN) fun _ => by kernel_rfl)
theorem wpe : wao prog (130, wuq) := wad mixed (ww (fdN)) wac (war wuq (waa []) wbua noZ [] ((f130.body).getD .skip) (fun x => wazs x.1.1 x.1.2.1 x.1.2.2.1) (fun r => ((r, ()), ())) func130 (waq (by kernel_rfl) lpN) fun _ => by kernel_rfl)
theorem wbid : (waan).OK wazv tt noZ (wai wazw) (wae wazx 0) := wce (fun _ => rfl) fun _ _ => by kernel_rfl
theorem wbzp : wab wazv tt noZ wazw wazx := waq (by kernel_rfl) (lpC wbid lpN)
theorem wbmv : wao prog (200, wazu) := wad mixed (ww (fdC wpe fdN)) wac (war wazu wazv wbub noZ wazw wazx (fun x => wazt x.1.1 x.1.2.1 x.1.2.2.1) (fun r => ((r, ()), ())) func200 wbzp fun _ => by kernel_rfl)
theorem wbie : (waao).OK wazz tt noZ (wai wbaa) (wae wbab 0) := wce (fun _ => rfl) fun _ _ => by kernel_rfl
theorem wbzq : wab wazz tt noZ wbaa wbab := waq (by kernel_rfl) (lpC wbie lpN)
theorem wawn : wao prog (166, wapq) := wad mixed (ww (fdC wbmv (fdC wpe fdN))) wac (war wapq wazz wbuc noZ wbaa wbab (fun x => wazy x.1.1.1 x.1.1.2.1) (fun r => ((r, ()), ())) func166 wbzq fun _ => by kernel_rfl)
theorem wbif : (waap).OK wbae tt noZ (wai wbaf) (wae wbag 0) := wce (fun _ => rfl) fun _ _ => by kernel_rfl
theorem wbzr : wab wbae tt noZ wbaf wbag := waq (by kernel_rfl) (lpC wbif lpN)
theorem wbmw : wao prog (122, wbad) := wad mixed (ww (fdC wpe fdN)) wac (war wbad wbae wbud noZ wbaf wbag (fun x => wbac x.1.1 x.1.2.1 x.1.2.2.1) (fun r => ((r, ()), ())) func122 wbzr fun _ => by kernel_rfl)
theorem wawo : wao prog (196, waps) := wad mixed (ww (fdC wbmw fdN)) wac (war waps (waa [(122, wbad)]) wbue noZ [] ((f196.body).getD .skip) (fun x => wbah x.1.1.1 x.1.1.2.1 x.1.2.1) (fun r => ((r, ()), ())) func196 (waq (by kernel_rfl) lpN) fun _ => by kernel_rfl)
theorem wawp : wao prog (135, wapt) := wad mixed (ww (fdC wawn (fdC wawo (fdC wpe fdN)))) wac (war wapt (waa [(166, wapq), (196, waps), (130, wuq)]) wbuf noZ [] ((f135.body).getD .skip) (fun x => wbai x.1.1.1 x.1.1.2.1 x.1.1.2.2.1 x.1.1.2.2.2.1) (fun r => ((r, ()), ())) func135 (waq (by kernel_rfl) lpN) fun _ => by kernel_rfl)
theorem wbmx : wao prog (209, wbak) := wad mixed (ww (fdN)) wac (war wbak (waa []) wbug noZ [] ((f209.body).getD .skip) (fun x => wbaj x.1.1.1 x.1.1.2.1 x.1.1.2.2.1 x.1.1.2.2.2.1 x.1.1.2.2.2.2.1) (fun r => ((r, ()), ())) func209 (waq (by kernel_rfl) lpN) fun _ => by kernel_rfl)
theorem wawq : wao prog (244, wapv) := wad mixed (ww (fdC wpe fdN)) wac (war wapv (waa [(130, wuq)]) wbuh noZ [] ((f244.body).getD .skip) (fun x => wbal x.1.1.1 x.1.1.2.1 x.1.2.1) (fun r => ((r, ()), ())) func244 (waq (by kernel_rfl) lpN) fun _ => by kernel_rfl)
theorem wbig : (waaq).OK wban tt noZ (wai wbao) (wae wbap 0) := wce (fun _ => rfl) fun _ _ => by kernel_rfl
theorem wbzs : wab wban tt noZ wbao wbap := waq (by kernel_rfl) (lpC wbig lpN)
theorem wakz : wao prog (112, waix) := wad mixed (ww (fdN)) wac (war waix wban wbui noZ wbao wbap (fun x => wbam x.1.1 x.1.2.1) (fun r => ((r, ()), ())) func112 wbzs fun _ => by kernel_rfl)
theorem wbmy : wao prog (243, wbar) := wad mixed (ww (fdC wawq (fdC wakz fdN))) wac (war wbar (waa [(244, wapv), (112, waix)]) wbuj noZ [] ((f243.body).getD .skip) (fun x => wbaq x.1.1.1 x.1.1.2.1 x.1.1.2.2.1 x.1.1.2.2.2.1 x.1.2.1) (fun r => ((r, ()), ())) func243 (waq (by kernel_rfl) lpN) fun _ => by kernel_rfl)
theorem wbmz : wao prog (210, wbat) := wad mixed (ww (fdC wbmy (fdC wakz (fdC wawq (fdC wpe fdN))))) wac (war wbat (waa [(243, wbar), (112, waix), (244, wapv), (130, wuq)]) wbuk noZ [] ((f210.body).getD .skip) (fun x => wbas x.1.1.1 x.1.1.2.1 x.1.1.2.2.1 x.1.1.2.2.2.1 x.1.2.1.1 x.1.2.1.2.1 x.1.2.1.2.2.1 x.1.2.1.2.2.2.1 x.1.2.1.2.2.2.2.1) (fun r => ((r, ()), ())) func210 (waq (by kernel_rfl) lpN) fun _ => by kernel_rfl)
theorem wack : wao prog (173, waen) := wad mixed (ww (fdN)) wac (war waen (waa []) wbul noZ [] ((f173.body).getD .skip) (fun x => wbau x.1.1) (fun r => (((), ()), (r, ()))) func173 (waq (by kernel_rfl) lpN) fun _ => by kernel_rfl)
theorem wbih : (waar).OK wbax tt wbaw (wai wbay) (wae wbaz 0) := wce (fun _ => rfl) fun _ _ => by kernel_rfl
theorem wbzt : wab wbax tt wbaw wbay wbaz := waq (by kernel_rfl) (lpC wbih lpN)
theorem wawr : wao prog (156, wapx) := wad mixed (ww (fdC wack fdN)) wac (war wapx wbax wbum wbaw wbay wbaz (fun x => wbav x.1.1.1 x.1.1.2.1 x.1.1.2.2.1 x.1.1.2.2.2.1) (fun r => ((((), ((), ((), (r.1, ())))), ()), (r.2.1, (r.2.2.1, (r.2.2.2, ()))))) func156 wbzt fun _ => by kernel_rfl)
theorem wbii : (waas).OK wbbc tt wbbb (wai wbbd) (wae wbbe 0) := wce (fun _ => rfl) fun _ _ => by kernel_rfl
theorem wbzu : wab wbbc tt wbbb wbbd wbbe := waq (by kernel_rfl) (lpC wbii lpN)
theorem waws : wao prog (169, wapy) := wad mixed (ww (fdN)) wac (war wapy wbbc wbun wbbb wbbd wbbe (fun x => wbba x.1.1 x.1.2.1) (fun r => (((), ()), (r, ()))) func169 wbzu fun _ => by kernel_rfl)
theorem wbij : (waat).OK wbbg tt noZ (wai wbbh) (wae wbbi 0) := wce (fun _ => rfl) fun _ _ => by kernel_rfl
theorem wbzv : wab wbbg tt noZ wbbh wbbi := waq (by kernel_rfl) (lpC wbij lpN)
theorem wawt : wao prog (245, wapz) := wad mixed (ww (fdN)) wac (war wapz wbbg wbuo noZ wbbh wbbi (fun x => wbbf x.1.1 x.1.2.1) (fun r => (((), ()), (r, ()))) func245 wbzv fun _ => by kernel_rfl)
theorem wbna : wao prog (265, wbbk) := wad mixed (ww (fdC wack fdN)) wac (war wbbk (waa [(173, waen)]) wbup noZ [] ((f265.body).getD .skip) (fun x => wbbj x.1.1 x.1.2.1) (fun r => (((), ()), (r, ()))) func265 (waq (by kernel_rfl) lpN) fun _ => by kernel_rfl)
theorem wbik : (waau).OK waqb tt noZ (wai waqc) (wae waqd 0) := wce (fun _ => rfl) fun _ _ => by kernel_rfl
theorem wbil : (waav).OK waqb tt noZ (wai waqc) (wae waqd 2) := wce (fun _ => rfl) fun _ _ => by kernel_rfl
theorem wbzw : wab waqb tt noZ waqc waqd := waq (by kernel_rfl) (lpC wbik (lpC wbil lpN))
theorem wbnb : wao prog (246, wbbm) := wad mixed (ww (fdC wawr (fdC wbna fdN))) wac (war wbbm waqb wbuq noZ waqc waqd (fun x => wbbl x.1.1.1 x.1.1.2.1 x.1.1.2.2.1 x.1.1.2.2.2.1 x.1.2.1) (fun r => ((((), ((), ((), (r.1, ())))), ()), (r.2.1, (r.2.2.1, (r.2.2.2, ()))))) func246 wbzw fun _ => by kernel_rfl)
theorem wbnc : wao prog (101, wbbo) := wad mixed (ww (fdC wawn (fdC wawo fdN))) wac (war wbbo (waa [(166, wapq), (196, waps)]) wbur noZ [] ((f101.body).getD .skip) (fun x => wbbn x.1.1.1 x.1.1.2.1 x.1.2.1) (fun r => ((r, ()), ())) func101 (waq (by kernel_rfl) lpN) fun _ => by kernel_rfl)
theorem wbim : (waaw).OK wajg tt wajf (wai wajh) (wae waji 2) := wce (fun _ => rfl) fun _ _ => by kernel_rfl
theorem wys : (wkl).OK wajg tt wajf (wai wajh) (wae waji 2) := wce (fun _ => rfl) fun _ _ => by kernel_rfl
theorem wbin : (waax).OK wajg tt wajf (wai wajh) (wae waji 0) := wce (fun _ => rfl) fun _ _ => by kernel_rfl
theorem wbzx : wab wajg tt wajf wajh waji := waq (by kernel_rfl) (lpC wbim (lpC wys (lpC wbin lpN)))
theorem wbnd : wao prog (227, wbbq) := wad mixed (ww (fdC wakz (fdC waws (fdC wawt fdN)))) wac (war wbbq wajg wbus wajf wajh waji (fun x => wbbp x.1.1.1 x.1.1.2.1 x.1.2.1) (fun r => (((), ()), (r, ()))) func227 wbzx fun _ => by kernel_rfl)
theorem wbio : (waay).OK wbbt tt noZ (wai wbbu) (wae wbbv 0) := wce (fun _ => rfl) fun _ _ => by kernel_rfl
theorem wbzy : wab wbbt tt noZ wbbu wbbv := waq (by kernel_rfl) (lpC wbio lpN)
theorem wbne : wao prog (262, wbbs) := wad mixed (ww (fdN)) wac (war wbbs wbbt wbut noZ wbbu wbbv (fun x => wbbr x.1.1.1 x.1.1.2.1 x.1.2.1 x.1.2.2.1) (fun r => ((r, ()), ())) func262 wbzy fun _ => by kernel_rfl)
theorem wbnf : wao prog (239, wbbx) := wad mixed (ww (fdC wbne fdN)) wac (war wbbx (waa [(262, wbbs)]) wbuu noZ [] ((f239.body).getD .skip) (fun x => wbbw x.1.1.1 x.1.1.2.1 x.1.2.1 x.1.2.2.1) (fun r => ((r, ()), ())) func239 (waq (by kernel_rfl) lpN) fun _ => by kernel_rfl)
theorem wbip : (waaz).OK wbca tt noZ (wai wbcb) (wae wbcc 0) := wce (fun _ => rfl) fun _ _ => by kernel_rfl
theorem wbzz : wab wbca tt noZ wbcb wbcc := waq (by kernel_rfl) (lpC wbip lpN)
theorem wbng : wao prog (190, wbbz) := wad mixed (ww (fdC wbnf fdN)) wac (war wbbz wbca wbuv noZ wbcb wbcc (fun x => wbby x.1.1.1 x.1.1.2.1 x.1.2.1) (fun r => ((r, ()), ())) func190 wbzz fun _ => by kernel_rfl)
theorem wbiq : (waba).OK wbcf tt noZ (wai wbcg) (wae wbch 0) := wce (fun _ => rfl) fun _ _ => by kernel_rfl
theorem wcaa : wab wbcf tt noZ wbcg wbch := waq (by kernel_rfl) (lpC wbiq lpN)
theorem wbnh : wao prog (191, wbce) := wad mixed (ww (fdN)) wac (war wbce wbcf wbuw noZ wbcg wbch (fun x => wbcd x.1.1.1 x.1.1.2.1 x.1.2.1) (fun r => ((r, ()), ())) func191 wcaa fun _ => by kernel_rfl)
theorem wawu : wao prog (192, waqk) := wad mixed (ww (fdC wbng (fdC wbnh fdN))) wac (war waqk (waa [(190, wbbz), (191, wbce)]) wbux noZ [] ((f192.body).getD .skip) (fun x => wbci x.1.1.1 x.1.1.2.1 x.1.2.1) (fun r => ((r, ()), ())) func192 (waq (by kernel_rfl) lpN) fun _ => by kernel_rfl)
theorem wbir : (wabb).OK wbcl tt noZ (wai wbcm) (wae wbcn 0) := wce (fun _ => rfl) fun _ _ => by kernel_rfl
theorem wcab : wab wbcl tt noZ wbcm wbcn := waq (by kernel_rfl) (lpC wbir lpN)
theorem wbni : wao prog (172, wbck) := wad mixed (ww (fdC wbnd (fdC wawu fdN))) wac (war wbck wbcl wbuy noZ wbcm wbcn (fun x => wbcj x.1.1.1 x.1.1.2.1 x.1.2.1) (fun r => (((), (r.1, ())), (r.2, ()))) func172 wcab fun _ => by kernel_rfl)
theorem wbis : (wabc).OK wbcq tt noZ (wai wbcr) (wae wbcs 0) := wce (fun _ => rfl) fun _ _ => by kernel_rfl
theorem wcac : wab wbcq tt noZ wbcr wbcs := waq (by kernel_rfl) (lpC wbis lpN)
theorem wbnj : wao prog (78, wbcp) := wad mixed (ww (fdC wbnc (fdC wack (fdC wbni fdN)))) wac (war wbcp wbcq wbuz noZ wbcr wbcs (fun x => wbco x.1.1.1 x.1.1.2.1 x.1.2.1) (fun r => (((), (r.1, (r.2.1, ()))), (r.2.2, ()))) func78 wcac fun _ => by kernel_rfl)
theorem wbit : (wabd).OK wbcu tt noZ (wai wbcv) (wae wbcw 0) := wce (fun _ => rfl) fun _ _ => by kernel_rfl
theorem wcad : wab wbcu tt noZ wbcv wbcw := waq (by kernel_rfl) (lpC wbit lpN)
theorem wbnk : wao prog (119, wbct) := wad mixed (ww (fdN)) wac (war wbct wbcu wbva noZ wbcv wbcw (fun x => waqm x.1.1 x.1.2.1) (fun r => (((), ()), (r, ()))) func119 wcad fun _ => by kernel_rfl)
theorem wbiu : (wabe).OK wbcy tt noZ (wai wbcz) (wae wbda 0) := wce (fun _ => rfl) fun _ _ => by kernel_rfl
theorem wcae : wab wbcy tt noZ wbcz wbda := waq (by kernel_rfl) (lpC wbiu lpN)
theorem wbnl : wao prog (189, wbcx) := wad mixed (ww (fdN)) wac (war wbcx wbcy wbvb noZ wbcz wbda (fun x => waqo x.1.1 x.1.2.1) (fun r => ((r, ()), ())) func189 wcae fun _ => by kernel_rfl)
theorem wbiv : (wabf).OK waqs tt waqr (wai waqt) (wae waqu 2) := wce (fun _ => rfl) fun _ _ => by kernel_rfl
theorem wbiw : (wabg).OK waqs tt waqr (wai waqt) (wae waqu 0) := wce (fun _ => rfl) fun _ _ => by kernel_rfl
theorem wcaf : wab waqs tt waqr waqt waqu := waq (by kernel_rfl) (lpC wbiv (lpC wbiw lpN))
theorem wbnm : wao prog (96, wbdb) := wad mixed (ww (fdC wbnk (fdC wbnl fdN))) wac (war wbdb waqs wbvc waqr waqt waqu (fun x => waqq x.1.1) (fun r => ((r, ()), ())) func96 wcaf fun _ => by kernel_rfl)
theorem wbix : (wabh).OK wbde tt noZ (wai wbdf) (wae wbdg 0) := wce (fun _ => rfl) fun _ _ => by kernel_rfl
theorem wcag : wab wbde tt noZ wbdf wbdg := waq (by kernel_rfl) (lpC wbix lpN)
theorem wbnn : wao prog (247, wbdd) := wad mixed (ww (fdC wbnm (fdC wawu fdN))) wac (war wbdd wbde wbvd noZ wbdf wbdg (fun x => wbdc x.1.1.1 x.1.1.2.1) (fun r => ((r, ()), ())) func247 wcag fun _ => by kernel_rfl)
theorem wbiy : (wabi).OK wbdj tt noZ (wai wbdk) (wae wbdl 1) := wce (fun _ => rfl) fun _ _ => by kernel_rfl
theorem wcah : wab wbdj tt noZ wbdk wbdl := waq (by kernel_rfl) (lpC wbiy lpN)
theorem wbno : wao prog (211, wbdi) := wad mixed (ww (fdC wawr (fdC waws (fdC wawt (fdC wack (fdC wbnb (fdC wbnj (fdC wbnn fdN)))))))) wac (war wbdi wbdj wbve noZ wbdk wbdl (fun x => wbdh x.1.1.1 x.1.1.2.1 x.1.1.2.2.1 x.1.1.2.2.2.1 x.1.2.1.1 x.1.2.1.2.1 x.1.2.1.2.2.1 x.1.2.1.2.2.2.1 x.1.2.1.2.2.2.2.1) (fun r => ((((), ((), ((), (r.1, ())))), ()), (r.2.1, (r.2.2.1, (r.2.2.2, ()))))) func211 wcah fun _ => by kernel_rfl)
theorem wbnp : wao prog (136, wbdn) := wad mixed (ww (fdC wbmx (fdC wbmz (fdC wbno (fdC wawp fdN))))) wac (war wbdn (waa [(209, wbak), (210, wbat), (211, wbdi), (135, wapt)]) wbvf noZ [] ((f136.body).getD .skip) (fun x => wbdm x.1.1.1 x.1.1.2.1 x.1.1.2.2.1 x.1.1.2.2.2.1 x.1.2.1.1 x.1.2.1.2.1 x.1.2.1.2.2.1 x.1.2.1.2.2.2.1 x.1.2.1.2.2.2.2.1) (fun r => ((((), ((), ((), (r.1, ())))), (r.2.1, ())), (r.2.2.1, (r.2.2.2.1, (r.2.2.2.2, ()))))) func136 (waq (by kernel_rfl) lpN) fun _ => by kernel_rfl)
theorem wbnq : wao prog (42, wbdp) := wad mixed (ww (fdC wawp (fdC wbnp fdN))) wac (war wbdp (waa [(135, wapt), (136, wbdn)]) wbvg noZ [] ((f42.body).getD .skip) (fun x => wbdo x.1.1.1 x.1.1.2.1 x.1.1.2.2.1 x.1.1.2.2.2.1 x.1.2.1.1 x.1.2.1.2.1 x.1.2.1.2.2.1 x.1.2.1.2.2.2.1 x.1.2.1.2.2.2.2.1) (fun r => ((((), ((), ((), (r.1, ())))), (r.2.1, ())), (r.2.2.1, (r.2.2.2.1, (r.2.2.2.2, ()))))) func42 (waq (by kernel_rfl) lpN) fun _ => by kernel_rfl)
theorem wpf : wao prog (104, wut) := wad mixed (ww (fdN)) wac (war wut (waa []) wbvh noZ [] ((f104.body).getD .skip) (fun x => wbdq x.1.1 x.1.2.1 x.1.2.2.1) (fun r => ((r, ()), ())) func104 (waq (by kernel_rfl) lpN) fun _ => by kernel_rfl)
theorem wbiz : (wabj).OK wbdt tt noZ (wai wbdu) (wae wbdv 0) := wce (fun _ => rfl) fun _ _ => by kernel_rfl
theorem wcai : wab wbdt tt noZ wbdu wbdv := waq (by kernel_rfl) (lpC wbiz lpN)
theorem wbnr : wao prog (206, wbds) := wad mixed (ww (fdN)) wac (war wbds wbdt wbvi noZ wbdu wbdv (fun x => wbdr x.1.1 x.1.2.1) (fun r => ((r, ()), ())) func206 wcai fun _ => by kernel_rfl)
theorem wawv : wao prog (126, warb) := wad mixed (ww (fdC wbnr fdN)) wac (war warb (waa [(206, wbds)]) wbvj noZ [] ((f126.body).getD .skip) (fun x => wbdw x.1.1 x.1.2.1) (fun r => ((r, ()), ())) func126 (waq (by kernel_rfl) lpN) fun _ => by kernel_rfl)
theorem wcaj : wao prog (201, D_zx) := wad mixed (ww (fdC wpf fdN)) wac (war D_zx (waa [(104, wut)]) K_zx noZ [] ((f201.body).getD .skip) (fun x => T_zx x.1.1 x.1.2.1.1 x.1.2.2.1.1) (fun r => ((r, ()), ())) func201 (waq (by kernel_rfl) lpN) fun _ => by kernel_rfl)
theorem wbns : wao prog (116, D_zw) := wad mixed (ww (fdC wawv (fdC wawv (fdC wcaj fdN)))) wac (war D_zw (waa [(126, warb), (126, warb), (201, D_zx)]) K_zw noZ [] ((f116.body).getD .skip) (fun x => T_zw x.1.1 x.1.2.1 x.1.2.2.1) (fun r => ((r, ()), ())) func116 (waq (by kernel_rfl) lpN) fun _ => by kernel_rfl)
theorem wbja : (wabk).OK wbdz tt noZ (wai wbea) (wae wbeb 0) := wce (fun _ => rfl) fun _ _ => by kernel_rfl
theorem wcak : wab wbdz tt noZ wbea wbeb := waq (by kernel_rfl) (lpC wbja lpN)
theorem wbnt : wao prog (131, wbdy) := wad mixed (ww (fdN)) wac (war wbdy wbdz wbvo noZ wbea wbeb (fun x => wbdx x.1.1 x.1.2.1) (fun r => ((r, ()), ())) func131 wcak fun _ => by kernel_rfl)
theorem waww : wao prog (218, ware) := wad mixed (ww (fdC wbnt fdN)) wac (war ware (waa [(131, wbdy)]) wbvp noZ [] ((f218.body).getD .skip) (fun x => wbec x.1.1 x.1.2.1) (fun r => ((r, ()), ())) func218 (waq (by kernel_rfl) lpN) fun _ => by kernel_rfl)
theorem wcal : wao prog (219, D_zu) := wad mixed (ww (fdC wbns fdN)) wac (war D_zu (waa [(116, D_zw)]) K_zu noZ [] ((f219.body).getD .skip) (fun x => T_zu x.1.1 x.1.2.1.1 x.1.2.1.2.1) (fun r => ((r, ()), ())) func219 (waq (by kernel_rfl) lpN) fun _ => by kernel_rfl)
theorem wbjb : wao prog (157, D_zt) := wad mixed (ww (fdC wpf (fdC wbns (fdC waww (fdC waww (fdC wcal fdN)))))) wac (war D_zt (waa [(104, wut), (116, D_zw), (218, ware), (218, ware), (219, D_zu)]) K_zt noZ [] ((f157.body).getD .skip) (fun x => T_zt x.1.1.1 x.1.1.2.1) (fun r => ((r, ()), ())) func157 (waq (by kernel_rfl) lpN) fun _ => by kernel_rfl)
theorem wbjc : (wabl).OK wbee tt noZ (wai wbef) (wae wbeg 0) := wce (fun _ => rfl) fun _ _ => by kernel_rfl
theorem wcam : wab wbee tt noZ wbef wbeg := waq (by kernel_rfl) (lpC wbjc lpN)
theorem wawx : wao prog (117, warf) := wad mixed (ww (fdC wpf fdN)) wac (war warf wbee wbvt noZ wbef wbeg (fun x => wbed x.1.1 x.1.2.1) (fun r => ((r, ()), ())) func117 wcam fun _ => by kernel_rfl)
theorem wcan : wao prog (65, D_zs) := wad mixed (ww (fdC wbjb (fdC wawx (fdC wpf fdN)))) wac (war D_zs (waa [(157, D_zt), (117, warf), (104, wut)]) K_zs noZ [] ((f65.body).getD .skip) (fun x => T_zs x.1.1.1 x.1.1.2.1 x.1.1.2.2.1 x.1.1.2.2.2.1) (fun r => ((r, ()), ())) func65 (waq (by kernel_rfl) lpN) fun _ => by kernel_rfl)
theorem wbnu : wao prog (213, wbei) := wad mixed (ww (fdN)) wac (war wbei (waa []) wbvw noZ [] ((f213.body).getD .skip) (fun x => wbeh x.1.1) (fun r => ((r.1, (r.2.1, (r.2.2, ()))), ())) func213 (waq (by kernel_rfl) lpN) fun _ => by kernel_rfl)
theorem wcao : wao prog (139, D_zh) := wad mixed (ww (fdC wbnu fdN)) wac (war D_zh (waa [(213, wbei)]) K_zh noZ [] ((f139.body).getD .skip) (fun x => T_zh x.1.1.1 x.1.1.2.1 x.1.1.2.2.1 x.1.1.2.2.2.1 x.1.1.2.2.2.2.1) (fun r => ((r, ()), ())) func139 (waq (by kernel_rfl) lpN) fun _ => by kernel_rfl)
theorem wacl : wao prog (146, wajt) := waej
theorem wbjd : (wabm).OK wbem tt wbel (wai wben) (wae wbeo 0) := wce (fun _ => rfl) fun _ _ => by kernel_rfl
theorem wcap : wab wbem tt wbel wben wbeo := waq (by kernel_rfl) (lpC wbjd lpN)
theorem wbnv : wao prog (214, wbek) := wad mixed (ww (fdC wacl fdN)) wac (war wbek wbem wbvz wbel wben wbeo (fun x => wbej x.1.1) (fun r => (((), ()), (r, ()))) func214 wcap fun _ => by kernel_rfl)
theorem wcaq : wao prog (140, D_zd) := wad mixed (ww (fdC wacl (fdC wbnv fdN))) wac (war D_zd (waa [(146, wajt), (214, wbek)]) K_zd noZ [] ((f140.body).getD .skip) (fun x => T_zd x.1.1.1 x.1.1.2.1 x.1.1.2.2.1 x.1.1.2.2.2.1) (fun r => ((((), ((), ((), (r.1, ())))), ()), (r.2.1, (r.2.2.1, (r.2.2.2, ()))))) func140 (waq (by kernel_rfl) lpN) fun _ => by kernel_rfl)
theorem wbnw : (wajv).OK E_zy tt noZ (wai O_zy) (wae C_zy 0) := wce (fun _ => rfl) fun _ _ => by kernel_rfl
theorem o_zy : wab E_zy tt noZ O_zy C_zy := waq (by kernel_rfl) (lpC wbnw lpN)
theorem wbje : wao prog (141, D_zy) := wad mixed (ww (fdN)) wac (war D_zy E_zy K_zy noZ O_zy C_zy (fun x => T_zy x.1.1) (fun r => ((r, ()), ())) func141 o_zy fun _ => by kernel_rfl)
theorem wcar : wao prog (142, D_zg) := wad mixed (ww (fdC wpf fdN)) wac (war D_zg (waa [(104, wut)]) K_zg noZ [] ((f142.body).getD .skip) (fun x => T_zg x.1.1 x.1.2.1.1 x.1.2.1.2.1 x.1.2.1.2.2.1 x.1.2.1.2.2.2.1) (fun r => ((r, ()), ())) func142 (waq (by kernel_rfl) lpN) fun _ => by kernel_rfl)
theorem wbjf : wao prog (143, D_zz) := wad mixed (ww (fdN)) wac (war D_zz (waa []) K_zz noZ [] ((f143.body).getD .skip) (fun x => T_zz x.1.1 x.1.2.1) (fun r => ((r, ()), ())) func143 (waq (by kernel_rfl) lpN) fun _ => by kernel_rfl)
theorem wbjg : (wabn).OK wbep tt noZ (wai wbeq) (wae wber 0) := wce (fun _ => rfl) fun _ _ => by kernel_rfl
theorem wcas : wab wbep tt noZ wbeq wber := waq (by kernel_rfl) (lpC wbjg lpN)
theorem wacm : wao prog (144, waeq) := wad mixed (ww (fdC wbjf fdN)) wac (war waeq wbep wbwi noZ wbeq wber (fun x => warh x.1.1) (fun r => (((), ()), (r, ()))) func144 wcas fun _ => by kernel_rfl)
theorem wawy : wao prog (145, wari) := wad mixed (ww (fdC wbje (fdC wacm fdN))) wac (war wari (waa [(141, D_zy), (144, waeq)]) wbwj noZ [] ((f145.body).getD .skip) (fun x => wbes x.1.1 x.1.2.1 x.1.2.2.1) (fun r => (((), ()), (r, ()))) func145 (waq (by kernel_rfl) lpN) fun _ => by kernel_rfl)
theorem wbnx : wao prog (147, wblz) := waik
theorem wbny : wao prog (148, wbmb) := wail
theorem wcat : wao prog (195, D_zk) := wad mixed (ww (fdC wawx fdN)) wac (war D_zk (waa [(117, warf)]) K_zk noZ [] ((f195.body).getD .skip) (fun x => T_zk x.1.1.1 x.1.1.2.1 x.1.2.1) (fun r => ((r, ()), ())) func195 (waq (by kernel_rfl) lpN) fun _ => by kernel_rfl)
theorem wbnz : wao prog (99, wbeu) := wad mixed (ww (fdC wbjb (fdC wcat fdN))) wac (war wbeu (waa [(157, D_zt), (195, D_zk)]) wbwn noZ [] ((f99.body).getD .skip) (fun x => wbet x.1.1.1 x.1.1.2.1 x.1.2.1) (fun r => ((r, ()), ())) func99 (waq (by kernel_rfl) lpN) fun _ => by kernel_rfl)
theorem wboa : (wajx).OK E_zn tt noZ (wai O_zn) (wae C_zn 0) := wce (fun _ => rfl) fun _ _ => by kernel_rfl
theorem o_zn : wab E_zn tt noZ O_zn C_zn := waq (by kernel_rfl) (lpC wboa lpN)
theorem wcau : wao prog (187, D_zn) := wad mixed (ww (fdN)) wac (war D_zn E_zn K_zn noZ O_zn C_zn (fun x => T_zn x.1.1.1 x.1.1.2.1 x.1.2.1) (fun r => ((r, ()), ())) func187 o_zn fun _ => by kernel_rfl)
theorem wbob : (wajy).OK E_zp tt noZ (wai O_zp) (wae C_zp 0) := wce (fun _ => rfl) fun _ _ => by kernel_rfl
theorem o_zp : wab E_zp tt noZ O_zp C_zp := waq (by kernel_rfl) (lpC wbob lpN)
theorem wcav : wao prog (274, D_zp) := wad mixed (ww (fdN)) wac (war D_zp E_zp K_zp noZ O_zp C_zp (fun x => T_zp x.1.1.1 x.1.1.2.1 x.1.2.1 x.1.2.2.1) (fun r => ((r, ()), ())) func274 o_zp fun _ => by kernel_rfl)
theorem wboc : (wajz).OK E_zo tt noZ (wai O_zo) (wae C_zo 0) := wce (fun _ => rfl) fun _ _ => by kernel_rfl
theorem o_zo : wab E_zo tt noZ O_zo C_zo := waq (by kernel_rfl) (lpC wboc lpN)
theorem wcaw : wao prog (261, D_zo) := wad mixed (ww (fdC wcav fdN)) wac (war D_zo E_zo K_zo noZ O_zo C_zo (fun x => T_zo x.1.1.1 x.1.1.2.1 x.1.2.1) (fun r => (((), ()), (r, ()))) func261 o_zo fun _ => by kernel_rfl)
theorem wbod : (waka).OK E_zl tt noZ (wai O_zl) (wae C_zl 0) := wce (fun _ => rfl) fun _ _ => by kernel_rfl
theorem o_zl : wab E_zl tt noZ O_zl C_zl := waq (by kernel_rfl) (lpC wbod lpN)
theorem wcax : wao prog (237, D_zl) := wad mixed (ww (fdC wcaw fdN)) wac (war D_zl E_zl K_zl noZ O_zl C_zl (fun x => T_zl x.1.1.1 x.1.1.2.1 x.1.2.1) (fun r => (((), ()), (r, ()))) func237 o_zl fun _ => by kernel_rfl)
theorem wbjh : (wabo).OK wbex tt noZ (wai wbey) (wae wbez 0) := wce (fun _ => rfl) fun _ _ => by kernel_rfl
theorem wcay : wab wbex tt noZ wbey wbez := waq (by kernel_rfl) (lpC wbjh lpN)
theorem wboe : wao prog (236, wbew) := wad mixed (ww (fdN)) wac (war wbew wbex wbxi noZ wbey wbez (fun x => wbev x.1.1) (fun r => ((r, ()), ())) func236 wcay fun _ => by kernel_rfl)
theorem wcaz : wao prog (186, D_zq) := wad mixed (ww (fdC wcax (fdC wboe fdN))) wac (war D_zq (waa [(237, D_zl), (236, wbew)]) K_zq noZ [] ((f186.body).getD .skip) (fun x => T_zq x.1.1.1 x.1.1.2.1 x.1.2.1) (fun r => ((r, ()), ())) func186 (waq (by kernel_rfl) lpN) fun _ => by kernel_rfl)
theorem wbji : wao prog (174, D_zr) := wad mixed (ww (fdC wcau (fdC wcaz fdN))) wac (war D_zr (waa [(187, D_zn), (186, D_zq)]) K_zr noZ [] ((f174.body).getD .skip) (fun x => T_zr x.1.1.1 x.1.1.2.1 x.1.2.1) (fun r => ((r, ()), ())) func174 (waq (by kernel_rfl) lpN) fun _ => by kernel_rfl)
theorem wcba : wao prog (226, D_zj) := wawa mixed (ww (fdC wbji fdN)) wac (wblr D_zj (waa [(174, D_zr)]) K_zj wbmd noZ [] ((f226.body).getD .skip) (fun x => T_zj x.2.1 x.2.2.1.1 x.2.2.1.2.1 x.2.2.2.1.1) (fun r => match r with | .inl a => .inl ((true, ()), (a.1, ((a.2.1, (a.2.2.1, ())), ((a.2.2.2, ()), (((), ()), ()))))) | .inr b => .inr ((false, ()), (b.1, ((b.2.1, (b.2.2.1, ())), ((b.2.2.2, ()), (((), ()), ())))))) func226 (waq (by kernel_rfl) lpN) (fun _ => by kernel_rfl) fun r => by cases r <;> rfl)
theorem wbof : (wakd).OK E_zm tt noZ (wai O_zm) (wae C_zm 0) := wce (fun _ => rfl) fun _ _ => by kernel_rfl
theorem wbog : (wakf).OK E_zm tt noZ (wai O_zm) (wae C_zm 2) := wce (fun _ => rfl) fun _ _ => by kernel_rfl
theorem wboh : (wakg).OK E_zm tt noZ (wai O_zm) (wae C_zm 6) := wce (fun _ => rfl) fun _ _ => by kernel_rfl
theorem wboi : (wakh).OK E_zm tt noZ (wai O_zm) (wae C_zm 4) := wce (fun _ => rfl) fun _ _ => by kernel_rfl
theorem o_zm : wab E_zm tt noZ O_zm C_zm := waq (by kernel_rfl) (lpC wbof (lpC wbog (lpC wboh (lpC wboi lpN))))
theorem wcbb : wao prog (225, D_zm) := wawa mixed (ww (fdC wbje (fdC wbjf (fdC wacm (fdC wcba (fdC wawy fdN)))))) wac (wblr D_zm E_zm K_zm wbme noZ O_zm C_zm (fun x => T_zm x.1.1.1 x.1.1.2.1 x.1.2.1 x.2.1.1 x.2.1.2.1 x.2.2.1.1) (fun r => match r with | .inl a => .inl ((), ((a.1, (a.2.1, ())), ((a.2.2, ()), (((), ()), ())))) | .inr b => .inr ((), ((b.1, (b.2.1, ())), ((b.2.2.1, ()), (((), ()), (b.2.2.2, ())))))) func225 o_zm (fun _ => by kernel_rfl) fun r => by cases r <;> rfl)
theorem wcbc : wao prog (171, D_zi) := wad mixed (ww (fdC wbji (fdC wcbb fdN))) wac (war D_zi (waa [(174, D_zr), (225, D_zm)]) K_zi noZ [] ((f171.body).getD .skip) (fun x => T_zi x.1.1.1 x.1.1.2.1 x.1.2.1) (fun r => (((), (r.1, ())), (r.2, ()))) func171 (waq (by kernel_rfl) lpN) fun _ => by kernel_rfl)
theorem wboj : (waki).OK E_zv tt noZ (wai O_zv) (wae C_zv 0) := wce (fun _ => rfl) fun _ _ => by kernel_rfl
theorem o_zv : wab E_zv tt noZ O_zv C_zv := waq (by kernel_rfl) (lpC wboj lpN)
theorem wcbd : wao prog (77, D_zv) := wad mixed (ww (fdC wbnz (fdC wacl (fdC wcbc fdN)))) wac (war D_zv E_zv K_zv noZ O_zv C_zv (fun x => T_zv x.1.1.1 x.1.1.2.1 x.1.2.1) (fun r => (((), (r.1, (r.2.1, ()))), (r.2.2, ()))) func77 o_zv fun _ => by kernel_rfl)
theorem wbok : wao prog (260, wbfa) := wad mixed (ww (fdN)) wac (war wbfa (waa []) wbxx noZ [] ((f260.body).getD .skip) (fun x => warm x.1.1) (fun r => ((r, ()), ())) func260 (waq (by kernel_rfl) lpN) fun _ => by kernel_rfl)
theorem wawz : wao prog (234, warp) := wad mixed (ww (fdC wbok fdN)) wac (war warp (waa [(260, wbfa)]) wbxy noZ [] ((f234.body).getD .skip) (fun x => waro x.1.1) (fun r => ((r, ()), ())) func234 (waq (by kernel_rfl) lpN) fun _ => by kernel_rfl)
theorem wbjj : (wabp).OK wars tt noZ (wai wart) (wae waru 2) := wce (fun _ => rfl) fun _ _ => by kernel_rfl
theorem wbjk : (wabq).OK wars tt noZ (wai wart) (wae waru 0) := wce (fun _ => rfl) fun _ _ => by kernel_rfl
theorem wcbe : wab wars tt noZ wart waru := waq (by kernel_rfl) (lpC wbjj (lpC wbjk lpN))
theorem wbol : wao prog (251, wbfb) := wad mixed (ww (fdN)) wac (war wbfb wars wbxz noZ wart waru (fun x => warq x.1.2.1 x.1.2.2.1 x.1.2.2.2.1 x.2.1) (fun r => ((), (r, ()))) func251 wcbe fun _ => by kernel_rfl)
theorem wbom : wao prog (270, wbfc) := wad mixed (ww (fdC wawz fdN)) wac (war wbfc (waa [(234, warp)]) wbya noZ [] ((f270.body).getD .skip) (fun x => warv x.1.1) (fun r => ((r, ()), ())) func270 (waq (by kernel_rfl) lpN) fun _ => by kernel_rfl)
theorem wbon : wao prog (271, wbfd) := wad mixed (ww (fdN)) wac (war wbfd (waa []) wbyb noZ [] ((f271.body).getD .skip) (fun x => warx x.2.1.1) (fun r => ((r.1, ()), ((r.2, ()), ()))) func271 (waq (by kernel_rfl) lpN) fun _ => by kernel_rfl)
theorem wbjl : (wabr).OK wbff tt noZ (wai wbfg) (wae wbfh 0) := wce (fun _ => rfl) fun _ _ => by kernel_rfl
theorem wcbf : wab wbff tt noZ wbfg wbfh := waq (by kernel_rfl) (lpC wbjl lpN)
theorem wboo : wao prog (253, wbfe) := wad mixed (ww (fdC wbom (fdC wbon fdN))) wac (war wbfe wbff wbyc noZ wbfg wbfh (fun x => warz x.1.2.1 x.1.2.2.1 x.1.2.2.2.1 x.2.1) (fun r => ((), (r, ()))) func253 wcbf fun _ => by kernel_rfl)
theorem wbop : wao prog (286, wbfi) := wad mixed (ww (fdN)) wac (war wbfi (waa []) wbyd noZ [] ((f286.body).getD .skip) (fun x => wasb x.1.1 x.1.2.1 x.1.2.2.1 x.1.2.2.2.2.1 x.2.1.1) (fun r => ((r.1, (r.2.1, ())), ((r.2.2, ()), ()))) func286 (waq (by kernel_rfl) lpN) fun _ => by kernel_rfl)
theorem waxa : wao prog (273, wasd) := wad mixed (ww (fdC wbop fdN)) wac (war wasd (waa [(286, wbfi)]) wbye noZ [] ((f273.body).getD .skip) (fun x => wasc x.1.1 x.1.2.1 x.1.2.2.1 x.1.2.2.2.1 x.1.2.2.2.2.2.1 x.2.1.1) (fun r => ((r.1, ()), ((r.2, ()), ()))) func273 (waq (by kernel_rfl) lpN) fun _ => by kernel_rfl)
theorem wboq : wao prog (272, wbfj) := wad mixed (ww (fdC waxa fdN)) wac (war wbfj (waa [(273, wasd)]) wbyf noZ [] ((f272.body).getD .skip) (fun x => wase x.1.1 x.1.2.1 x.1.2.2.2.1 x.2.1.1) (fun r => ((r.1, ()), ((r.2, ()), ()))) func272 (waq (by kernel_rfl) lpN) fun _ => by kernel_rfl)
theorem wbor : wao prog (254, wbfk) := wad mixed (ww (fdC wboq (fdC waxa fdN))) wac (war wbfk (waa [(272, wbfj), (273, wasd)]) wbyg noZ [] ((f254.body).getD .skip) (fun x => wasf x.1.1 x.1.2.1 x.1.2.2.1 x.1.2.2.2.1) (fun r => ((r.1, (r.2, ())), ())) func254 (waq (by kernel_rfl) lpN) fun _ => by kernel_rfl)
theorem wbjm : (wabs).OK wyj tt noZ (wai wyk) (wae wyl 0) := wce (fun _ => rfl) fun _ _ => by kernel_rfl
theorem wbjn : (wabt).OK wyj tt noZ (wai wyk) (wae wyl 2) := wce (fun _ => rfl) fun _ _ => by kernel_rfl
theorem wbjo : (wabu).OK wyj tt noZ (wai wyk) (wae wyl 6) := wce (fun _ => rfl) fun _ _ => by kernel_rfl
theorem wbjp : (wabv).OK wyj tt noZ (wai wyk) (wae wyl 8) := wce (fun _ => rfl) fun _ _ => by kernel_rfl
theorem wbjq : (wabw).OK wyj tt noZ (wai wyk) (wae wyl 4) := wce (fun _ => rfl) fun _ _ => by kernel_rfl
theorem wcbg : wab wyj tt noZ wyk wyl := waq (by kernel_rfl) (lpC wbjm (lpC wbjn (lpC wbjo (lpC wbjp (lpC wbjq lpN)))))
theorem wbos : wao prog (258, wbfl) := wad mixed (ww (fdN)) wac (war wbfl wyj wbyh noZ wyk wyl (fun x => wasg x.1.2.1 x.1.2.2.1 x.1.2.2.2.1 x.1.2.2.2.2.1 x.2.1) (fun r => ((r.1, (r.2.1, ())), (r.2.2, ()))) func258 wcbg fun _ => by kernel_rfl)
theorem wbjr (rec_ : (Int) → (Int) → (Int) → ((HL [y1, y1] → Option (Int))) → ((List Nat) × Y2) → Option ((List Nat) × Y2)) : (wabx rec_).OK (wbfn rec_) tt noZ (wai (wbfo rec_)) (wae wbfp 0) := wce (fun _ => rfl) fun _ _ => by kernel_rfl
theorem wcbh (rec_ : (Int) → (Int) → (Int) → ((HL [y1, y1] → Option (Int))) → ((List Nat) × Y2) → Option ((List Nat) × Y2)) : wab (wbfn rec_) tt noZ (wbfo rec_) wbfp := waq (by kernel_rfl) (lpC (wbjr rec_) lpN)
theorem waxb : ∀ n : Nat, wao prog (233, wbfm n)
 | 0 => fun _ _ h => nomatch h
 | n + 1 => wad mixed (ww (fdC wbol (fdC wboo (fdC wbor (fdC wbos (fdC (waxb n) fdN)))))) wac (war (wbfm (n + 1)) (wbfn (wrg n)) wbyi noZ (wbfo (wrg n)) wbfp (fun x => wash (wrg n) x.1.2.1 x.1.2.2.1 x.1.2.2.2.1 x.1.2.2.2.2.1 x.2.1) (fun r => ((), (r, ()))) func233 (wcbh (wrg n)) fun _ => by kernel_rfl)
theorem waxc : wao prog (184, wask) := wad mixed (ww (fdC wawz (fdC (waxb 1000000) fdN))) wac (war wask (waa [(234, warp), (233, wbfm 1000000)]) wbyj noZ [] ((f184.body).getD .skip) (fun x => wasi x.1.2.1 x.2.1) (fun r => ((), (r, ()))) func184 (waq (by kernel_rfl) lpN) fun _ => by kernel_rfl)
theorem wcbi : wao prog (231, D_zc) := wad mixed (ww (fdN)) wac (war D_zc (waa []) K_zc noZ [] ((f231.body).getD .skip) (fun x => T_zc x.1.1) (fun r => ((r, ()), ())) func231 (waq (by kernel_rfl) lpN) fun _ => by kernel_rfl)
theorem wbot : wao prog (182, D_za) := wad mixed (ww (fdC wcbi fdN)) wac (war D_za (waa [(231, D_zc)]) K_za noZ [] ((f182.body).getD .skip) (fun x => T_za x.1.1 x.1.2.1) (fun r => ((r, ()), ())) func182 (waq (by kernel_rfl) lpN) fun _ => by kernel_rfl)
theorem wbjs : (waby).OK wbfr tt noZ (wai wbfs) (wae wbft 0) := wce (fun _ => rfl) fun _ _ => by kernel_rfl
theorem wcbj : wab wbfr tt noZ wbfs wbft := waq (by kernel_rfl) (lpC wbjs lpN)
theorem wbou : wao prog (235, wbfq) := wad mixed (ww (fdC wbot fdN)) wac (war wbfq wbfr wbyl noZ wbfs wbft (fun x => wasl x.1.1 x.1.2.1) (fun r => ((r, ()), ())) func235 wcbj fun _ => by kernel_rfl)
theorem wbov : (wakm).OK E_zb tt noZ (wai O_zb) (wae C_zb 0) := wce (fun _ => rfl) fun _ _ => by kernel_rfl
theorem o_zb : wab E_zb tt noZ O_zb C_zb := waq (by kernel_rfl) (lpC wbov lpN)
theorem wcbk : wao prog (181, D_zb) := wad mixed (ww (fdN)) wac (war D_zb E_zb K_zb noZ O_zb C_zb (fun x => T_zb x.1.1) (fun r => ((r, ()), ())) func181 o_zb fun _ => by kernel_rfl)
theorem wbow : wao prog (185, wbfu) := wad mixed (ww (fdC wbot (fdC wbou (fdC wcbk fdN)))) wac (war wbfu (waa [(182, D_za), (235, wbfq), (181, D_zb)]) wbyq noZ [] ((f185.body).getD .skip) (fun x => wasn x.1.1 x.1.2.1) (fun r => ((r, ()), ())) func185 (waq (by kernel_rfl) lpN) fun _ => by kernel_rfl)
theorem wbjt : (waca).OK wbfx tt wbfw (wai wbfy) (wae wbfz 0) := wce (fun _ => rfl) fun _ _ => by kernel_rfl
theorem wcbl : wab wbfx tt wbfw wbfy wbfz := waq (by kernel_rfl) (lpC wbjt lpN)
theorem wbox : wao prog (91, wbfv) := wad mixed (ww (fdC wacm (fdC waxc (fdC waxc (fdC wbow fdN))))) wac (war wbfv wbfx wbyr wbfw wbfy wbfz (fun x => wasp x.1.1) (fun r => (((), ()), (r, ()))) func91 wcbl fun _ => by kernel_rfl)
theorem wbju : (wacb).OK wbgb tt noZ (wai wbgc) (wae wbgd 0) := wce (fun _ => rfl) fun _ _ => by kernel_rfl
theorem wcbm : wab wbgb tt noZ wbgc wbgd := waq (by kernel_rfl) (lpC wbju lpN)
theorem waxd : wao prog (94, wasr) := wad mixed (ww (fdN)) wac (war wasr wbgb wbys noZ wbgc wbgd (fun x => wbga x.1.2.1 x.2.1) (fun r => (((), ()), (r, ()))) func94 wcbm fun _ => by kernel_rfl)
theorem wcbn : wao prog (149, D_ze) := wad mixed (ww (fdC wbjb (fdC wbox (fdC waxd (fdC waxd (fdC wbji fdN)))))) wac (war D_ze (waa [(157, D_zt), (91, wbfv), (94, wasr), (94, wasr), (174, D_zr)]) K_ze noZ [] ((f149.body).getD .skip) (fun x => T_ze x.1.1.1 x.1.1.2.1) (fun r => (((), (r.1, ())), (r.2, ()))) func149 (waq (by kernel_rfl) lpN) fun _ => by kernel_rfl)
theorem l_zg : (wbmi).OK E_zf tt Z_zf (wai O_zf) (wae C_zf 1) := wce (fun _ => rfl) fun _ _ => by kernel_rfl
theorem wboy : (wako).OK E_zf tt Z_zf (wai O_zf) (wae C_zf 3) := wce (fun _ => rfl) fun _ _ => by kernel_rfl
theorem wboz : (wakp).OK E_zf tt Z_zf (wai O_zf) (wae C_zf 5) := wce (fun _ => rfl) fun _ _ => by kernel_rfl
theorem o_zf : wab E_zf tt Z_zf O_zf C_zf := waq (by kernel_rfl) (lpC l_zg (lpC wboy (lpC wboz lpN)))
theorem wcbo : wao prog (45, D_zf) := wad mixed (ww (fdC wcan (fdC wcao (fdC wcaq (fdC wbje (fdC wpf (fdC wcar (fdC wbjf (fdC wacm (fdC wawy (fdC wacl (fdC wbnx (fdC wbny (fdC wcbd (fdC wcbn fdN))))))))))))))) wac (war D_zf E_zf K_zf Z_zf O_zf C_zf (fun x => T_zf x.1.1.1 x.1.1.2.1 x.1.1.2.2.1 x.1.1.2.2.2.1 x.1.2.1.1 x.1.2.1.2.1 x.1.2.1.2.2.1 x.1.2.1.2.2.2.1 x.1.2.1.2.2.2.2.1) (fun r => ((((), ((), ((), (r.1, ())))), (r.2.1, ())), (r.2.2.1, (r.2.2.2.1, (r.2.2.2.2, ()))))) func45 o_zf fun _ => by kernel_rfl)
theorem wbjv : (wacc).OK wbgg tt noZ (wai wbgh) (wae wbgi 0) := wce (fun _ => rfl) fun _ _ => by kernel_rfl
theorem wcbp : wab wbgg tt noZ wbgh wbgi := waq (by kernel_rfl) (lpC wbjv lpN)
theorem wacn : wao prog (151, waev) := wad mixed (ww (fdN)) wac (war waev wbgg wbyx noZ wbgh wbgi (fun x => wbgf x.1.1 x.1.2.1) (fun r => ((r, ()), ())) func151 wcbp fun _ => by kernel_rfl)
theorem wbjw : (wacd).OK wbgl tt noZ (wai wbgm) (wae wbgn 0) := wce (fun _ => rfl) fun _ _ => by kernel_rfl
theorem wcbq : wab wbgl tt noZ wbgm wbgn := waq (by kernel_rfl) (lpC wbjw lpN)
theorem wbpa : wao prog (215, wbgk) := wad mixed (ww (fdC wacn fdN)) wac (war wbgk wbgl wbyy noZ wbgm wbgn (fun x => wbgj x.1.1 x.1.2.1) (fun r => ((r, ()), ())) func215 wcbq fun _ => by kernel_rfl)
theorem wbpb : wao prog (150, wbgp) := wad mixed (ww (fdC wacn (fdC wbpa fdN))) wac (war wbgp (waa [(151, waev), (215, wbgk)]) wbyz noZ [] ((f150.body).getD .skip) (fun x => wbgo x.1.1.1 x.1.1.2.1 x.1.2.1.1 x.1.2.1.2.1) (fun r => ((r, ()), ())) func150 (waq (by kernel_rfl) lpN) fun _ => by kernel_rfl)
theorem wbpc : wao prog (46, wbgr) := wad mixed (ww (fdC wbpb (fdC wacn fdN))) wac (war wbgr (waa [(150, wbgp), (151, waev)]) wbza noZ [] ((f46.body).getD .skip) (fun x => wbgq x.1.1.1 x.1.1.2.1 x.1.1.2.2.1 x.1.1.2.2.2.1 x.1.2.1.1 x.1.2.1.2.1 x.1.2.1.2.2.1 x.1.2.1.2.2.2.1) (fun r => ((r, ()), ())) func46 (waq (by kernel_rfl) lpN) fun _ => by kernel_rfl)
theorem wbpd : wao prog (47, wbgt) := wad mixed (ww (fdC wacn fdN)) wac (war wbgt (waa [(151, waev)]) wbzb noZ [] ((f47.body).getD .skip) (fun x => wbgs x.1.1.1 x.1.1.2.1 x.1.1.2.2.1 x.1.1.2.2.2.1 x.1.1.2.2.2.2.1 x.1.2.1.1 x.1.2.1.2.1 x.1.2.1.2.2.1 x.1.2.1.2.2.2.1 x.1.2.1.2.2.2.2.1) (fun r => ((r, ()), ())) func47 (waq (by kernel_rfl) lpN) fun _ => by kernel_rfl)
theorem wbjx : (wace).OK wbgv tt noZ (wai wbgw) (wae wbgx 0) := wce (fun _ => rfl) fun _ _ => by kernel_rfl
theorem wcbr : wab wbgv tt noZ wbgw wbgx := waq (by kernel_rfl) (lpC wbjx lpN)
theorem waco : wao prog (153, waew) := wad mixed (ww (fdN)) wac (war waew wbgv wbzc noZ wbgw wbgx (fun x => wbgu x.1.2.1 x.2.1) (fun r => ((r.1, ()), (r.2, ()))) func153 wcbr fun _ => by kernel_rfl)
theorem wbjy : (wacf).OK wbhb tt wbha (wai wbhc) (wae wbhd 0) := wce (fun _ => rfl) fun _ _ => by kernel_rfl
theorem wcbs : wab wbhb tt wbha wbhc wbhd := waq (by kernel_rfl) (lpC wbjy lpN)
theorem wbpe : wao prog (216, wbgz) := wad mixed (ww (fdC waco fdN)) wac (war wbgz wbhb wbzd wbha wbhc wbhd (fun x => wbgy x.1.2.1 x.2.1) (fun r => ((r.1, ()), (r.2, ()))) func216 wcbs fun _ => by kernel_rfl)
theorem wbpf : wao prog (152, wbhf) := wad mixed (ww (fdC waco (fdC wbpe fdN))) wac (war wbhf (waa [(153, waew), (216, wbgz)]) wbze noZ [] ((f152.body).getD .skip) (fun x => wbhe x.1.2.1 x.2.1 x.2.2.1) (fun r => ((r.1, ()), (r.2.1, (r.2.2, ())))) func152 (waq (by kernel_rfl) lpN) fun _ => by kernel_rfl)
theorem wbpg : wao prog (48, wbhh) := wad mixed (ww (fdC wbpf (fdC waco fdN))) wac (war wbhh (waa [(152, wbhf), (153, waew)]) wbzf noZ [] ((f48.body).getD .skip) (fun x => wbhg x.1.1.2.2.2.1 x.1.2.1 x.2.1 x.2.2.1 x.2.2.2.1) (fun r => ((r.1, ()), (r.2.1, (r.2.2.1, (r.2.2.2, ()))))) func48 (waq (by kernel_rfl) lpN) fun _ => by kernel_rfl)
theorem wbph : wao prog (49, wbhj) := wad mixed (ww (fdC waco fdN)) wac (war wbhj (waa [(153, waew)]) wbzg noZ [] ((f49.body).getD .skip) (fun x => wbhi x.1.1.1 x.1.1.2.1 x.1.1.2.2.1 x.1.1.2.2.2.1 x.1.2.1 x.2.1) (fun r => ((r.1, ()), (r.2, ()))) func49 (waq (by kernel_rfl) lpN) fun _ => by kernel_rfl)
theorem wbjz : (wacg).OK wbhl tt noZ (wai wbhm) (wae wbhn 0) := wce (fun _ => rfl) fun _ _ => by kernel_rfl
theorem wcbt : wab wbhl tt noZ wbhm wbhn := waq (by kernel_rfl) (lpC wbjz lpN)
theorem wala : wao prog (155, wakw) := wad mixed (ww (fdN)) wac (war wakw wbhl wbzh noZ wbhm wbhn (fun x => wbhk x.1.1 x.1.2.1) (fun r => ((r, ()), ())) func155 wcbt fun _ => by kernel_rfl)
theorem wbka : (wach).OK wbhq tt noZ (wai wbhr) (wae wbhs 0) := wce (fun _ => rfl) fun _ _ => by kernel_rfl
theorem wcbu : wab wbhq tt noZ wbhr wbhs := waq (by kernel_rfl) (lpC wbka lpN)
theorem wbpi : wao prog (217, wbhp) := wad mixed (ww (fdC wala fdN)) wac (war wbhp wbhq wbzi noZ wbhr wbhs (fun x => wbho x.1.1 x.1.2.1) (fun r => ((r, ()), ())) func217 wcbu fun _ => by kernel_rfl)
theorem wbpj : wao prog (154, wbhu) := wad mixed (ww (fdC wala (fdC wbpi fdN))) wac (war wbhu (waa [(155, wakw), (217, wbhp)]) wbzj noZ [] ((f154.body).getD .skip) (fun x => wbht x.1.1.1 x.1.1.2.1 x.1.2.1) (fun r => ((r, ()), ())) func154 (waq (by kernel_rfl) lpN) fun _ => by kernel_rfl)
theorem wbpk : wao prog (50, wbhw) := wad mixed (ww (fdC wbpj (fdC wala fdN))) wac (war wbhw (waa [(154, wbhu), (155, wakw)]) wbzk noZ [] ((f50.body).getD .skip) (fun x => wbhv x.1.1.1 x.1.1.2.1 x.1.1.2.2.1 x.1.1.2.2.2.1 x.1.2.1) (fun r => ((r, ()), ())) func50 (waq (by kernel_rfl) lpN) fun _ => by kernel_rfl)
theorem wbpl : wao prog (5, wbhz) := wad mixed (ww (fdC wbmp (fdC wbmq (fdC wbmt (fdC wbmu (fdC wbnq (fdC wcbo (fdC wbpc (fdC wbpd (fdC wbpg (fdC wbph (fdC wbpk fdN)))))))))))) wac (war wbhz (waa [(40, waza), (41, wazb), (43, wazp), (44, wazr), (42, wbdp), (45, D_zf), (46, wbgr), (47, wbgt), (48, wbhh), (49, wbhj), (50, wbhw)]) wbzl noZ [] ((f5.body).getD .skip) (fun x => wbhx x.1.1.1 x.1.1.2.1 x.1.1.2.2.1 x.1.1.2.2.2.1 x.1.2.1.1 x.1.2.1.2.1 x.1.2.1.2.2.1 x.1.2.1.2.2.2.1 x.1.2.1.2.2.2.2.1) (fun r => ((r, ()), ())) func5 (waq (by kernel_rfl) lpN) fun _ => by kernel_rfl)
end Go.Proofs.YtnagpmhaddfgmaaGreat
