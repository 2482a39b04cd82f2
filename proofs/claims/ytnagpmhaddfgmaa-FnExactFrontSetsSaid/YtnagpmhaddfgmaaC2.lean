/-
 The evaluator hands back, for the code of each function that the claim reaches, what its typed function says. No conditions.
-/
import Derived.Test.YtnagpmhaddfgmaaC1
namespace Go.Proofs.Ytnagpmhaddfgmaa
open Go.Proofs.Try
open List (length getD set)
open Int (toNat)
open IntKind (wrap)
theorem mixed : prog.follows .mixedOrders = true := by kernel_rfl
theorem wae : waj prog tt := wamu (by kernel_rfl)
theorem wbbs : waj prog tt2 := wamu (by kernel_rfl)
theorem wbkz : war prog (110, D_zt) := wad mixed (ww (fdN)) wae (wbf D_zt (waa []) K_zt noZ [] ((f110.body).getD .skip) (fun x => T_zt x.1.1 x.1.2.1) (fun r => ((r, ()), ())) func110 (wbd (by kernel_rfl) lpN) fun _ => by kernel_rfl)
theorem wbbt : (wadu).OK E_zu tt noZ (wai O_zu) (wab C_zu 0) := wcg (fun _ => rfl) fun _ _ => by kernel_rfl
theorem o_zu : wz E_zu tt noZ O_zu C_zu := wbd (by kernel_rfl) (lpC wbbt lpN)
theorem wbla : war prog (90, D_zu) := wad mixed (ww (fdC wbkz fdN)) wae (wbf D_zu E_zu K_zu noZ O_zu C_zu (fun x => T_zu x.1.1) (fun r => (((), ()), (r, ()))) func90 o_zu fun _ => by kernel_rfl)
theorem wbbu : war prog (138, wapk) := wad mixed (ww (fdN)) wae (wbf wapk (waa []) wbgl noZ [] ((f138.body).getD .skip) (fun x => wbai x.1.1) (fun r => ((r, ()), ())) func138 (wbd (by kernel_rfl) lpN) fun _ => by kernel_rfl)
theorem wanh : war prog (112, waje) := wad mixed (ww (fdC wbbu fdN)) wae (wbf waje (waa [(138, wapk)]) wbgm noZ [] ((f112.body).getD .skip) (fun x => wbak x.1.1) (fun r => ((r, ()), ())) func112 (wbd (by kernel_rfl) lpN) fun _ => by kernel_rfl)
theorem wawt : (wwr).OK wajf tt noZ (wai wajg) (wab wajh 2) := wcg (fun _ => rfl) fun _ _ => by kernel_rfl
theorem wawu : (wws).OK wajf tt noZ (wai wajg) (wab wajh 0) := wcg (fun _ => rfl) fun _ _ => by kernel_rfl
theorem wblb : wz wajf tt noZ wajg wajh := wbd (by kernel_rfl) (lpC wawt (lpC wawu lpN))
theorem wbbv : war prog (129, wapo) := wad mixed (ww (fdN)) wae (wbf wapo wajf wbgn noZ wajg wajh (fun x => wbal x.1.2.1 x.1.2.2.1 x.1.2.2.2.1 x.2.1) (fun r => ((), (r, ()))) func129 wblb fun _ => by kernel_rfl)
theorem wbbw : war prog (154, wapp) := wad mixed (ww (fdC wanh fdN)) wae (wbf wapp (waa [(112, waje)]) wbgo noZ [] ((f154.body).getD .skip) (fun x => wban x.1.1) (fun r => ((r, ()), ())) func154 (wbd (by kernel_rfl) lpN) fun _ => by kernel_rfl)
theorem wbbx : war prog (155, wapq) := wad mixed (ww (fdN)) wae (wbf wapq (waa []) wbgp noZ [] ((f155.body).getD .skip) (fun x => wbap x.2.1.1) (fun r => ((r.1, ()), ((r.2, ()), ()))) func155 (wbd (by kernel_rfl) lpN) fun _ => by kernel_rfl)
theorem wawv : (wwt).OK wapt tt noZ (wai wapu) (wab wapv 0) := wcg (fun _ => rfl) fun _ _ => by kernel_rfl
theorem wblc : wz wapt tt noZ wapu wapv := wbd (by kernel_rfl) (lpC wawv lpN)
theorem wbby : war prog (131, waps) := wad mixed (ww (fdC wbbw (fdC wbbx fdN))) wae (wbf waps wapt wbgq noZ wapu wapv (fun x => wbar x.1.2.1 x.1.2.2.1 x.1.2.2.2.1 x.2.1) (fun r => ((), (r, ()))) func131 wblc fun _ => by kernel_rfl)
theorem wbbz : war prog (162, wapw) := wad mixed (ww (fdN)) wae (wbf wapw (waa []) wbgr noZ [] ((f162.body).getD .skip) (fun x => wbat x.1.1 x.1.2.1 x.1.2.2.1 x.1.2.2.2.2.1 x.2.1.1) (fun r => ((r.1, (r.2.1, ())), ((r.2.2, ()), ()))) func162 (wbd (by kernel_rfl) lpN) fun _ => by kernel_rfl)
theorem wani : war prog (157, wajk) := wad mixed (ww (fdC wbbz fdN)) wae (wbf wajk (waa [(162, wapw)]) wbgs noZ [] ((f157.body).getD .skip) (fun x => wbau x.1.1 x.1.2.1 x.1.2.2.1 x.1.2.2.2.1 x.1.2.2.2.2.2.1 x.2.1.1) (fun r => ((r.1, ()), ((r.2, ()), ()))) func157 (wbd (by kernel_rfl) lpN) fun _ => by kernel_rfl)
theorem wbca : war prog (156, wapx) := wad mixed (ww (fdC wani fdN)) wae (wbf wapx (waa [(157, wajk)]) wbgt noZ [] ((f156.body).getD .skip) (fun x => wbav x.1.1 x.1.2.1 x.1.2.2.2.1 x.2.1.1) (fun r => ((r.1, ()), ((r.2, ()), ()))) func156 (wbd (by kernel_rfl) lpN) fun _ => by kernel_rfl)
theorem wbcb : war prog (132, wapz) := wad mixed (ww (fdC wbca (fdC wani fdN))) wae (wbf wapz (waa [(156, wapx), (157, wajk)]) wbgu noZ [] ((f132.body).getD .skip) (fun x => wbaw x.1.1 x.1.2.1 x.1.2.2.1 x.1.2.2.2.1) (fun r => ((r.1, (r.2, ())), ())) func132 (wbd (by kernel_rfl) lpN) fun _ => by kernel_rfl)
theorem waww : (wwu).OK wui tt noZ (wai wuj) (wab wuk 0) := wcg (fun _ => rfl) fun _ _ => by kernel_rfl
theorem wawx : (wwv).OK wui tt noZ (wai wuj) (wab wuk 2) := wcg (fun _ => rfl) fun _ _ => by kernel_rfl
theorem wawy : (www).OK wui tt noZ (wai wuj) (wab wuk 6) := wcg (fun _ => rfl) fun _ _ => by kernel_rfl
theorem wawz : (wwx).OK wui tt noZ (wai wuj) (wab wuk 8) := wcg (fun _ => rfl) fun _ _ => by kernel_rfl
theorem waxa : (wwy).OK wui tt noZ (wai wuj) (wab wuk 4) := wcg (fun _ => rfl) fun _ _ => by kernel_rfl
theorem wbld : wz wui tt noZ wuj wuk := wbd (by kernel_rfl) (lpC waww (lpC wawx (lpC wawy (lpC wawz (lpC waxa lpN)))))
theorem wbcc : war prog (136, waqf) := wad mixed (ww (fdN)) wae (wbf waqf wui wbgv noZ wuj wuk (fun x => wbax x.1.2.1 x.1.2.2.1 x.1.2.2.2.1 x.1.2.2.2.2.1 x.2.1) (fun r => ((r.1, (r.2.1, ())), (r.2.2, ()))) func136 wbld fun _ => by kernel_rfl)
theorem waxb (rec_ : (Int) → (Int) → (Int) → (Ye) → Yd → Option Yd) : (wwz rec_).OK (waqi rec_) tt noZ (wai (waqj rec_)) (wab waqk 0) := wcg (fun _ => rfl) fun _ _ => by kernel_rfl
theorem wble (rec_ : (Int) → (Int) → (Int) → (Ye) → Yd → Option Yd) : wz (waqi rec_) tt noZ (waqj rec_) waqk := wbd (by kernel_rfl) (lpC (waxb rec_) lpN)
theorem wanj : ∀ n : Nat, war prog (111, waqh n)
 | 0 => fun _ _ h => nomatch h
 | n + 1 => wad mixed (ww (fdC wbbv (fdC wbby (fdC wbcb (fdC wbcc (fdC (wanj n) fdN)))))) wae (wbf (waqh (n + 1)) (waqi (wul n)) wbgw noZ (waqj (wul n)) waqk (fun x => wbay (wul n) x.1.2.1 x.1.2.2.1 x.1.2.2.2.1 x.1.2.2.2.2.1 x.2.1) (fun r => ((), (r, ()))) func111 (wble (wul n)) fun _ => by kernel_rfl)
theorem wank : war prog (91, wajm) := wad mixed (ww (fdC wanh (fdC (wanj 1000000) fdN))) wae (wbf wajm (waa [(112, waje), (111, waqh 1000000)]) wbgx noZ [] ((f91.body).getD .skip) (fun x => wbaz x.1.2.1 x.2.1) (fun r => ((), (r, ()))) func91 (wbd (by kernel_rfl) lpN) fun _ => by kernel_rfl)
theorem wblf : war prog (95, D_zc) := wad mixed (ww (fdN)) wae (wbf D_zc (waa []) K_zc noZ [] ((f95.body).getD .skip) (fun x => T_zc x.1.1) (fun r => ((r, ()), ())) func95 (wbd (by kernel_rfl) lpN) fun _ => by kernel_rfl)
theorem waxc : war prog (66, D_za) := wad mixed (ww (fdC wblf fdN)) wae (wbf D_za (waa [(95, D_zc)]) K_za noZ [] ((f66.body).getD .skip) (fun x => T_za x.1.1 x.1.2.1) (fun r => ((r, ()), ())) func66 (wbd (by kernel_rfl) lpN) fun _ => by kernel_rfl)
theorem waxd : (wxa).OK waqo tt noZ (wai waqp) (wab waqq 0) := wcg (fun _ => rfl) fun _ _ => by kernel_rfl
theorem wblg : wz waqo tt noZ waqp waqq := wbd (by kernel_rfl) (lpC waxd lpN)
theorem wbcd : war prog (113, waqn) := wad mixed (ww (fdC waxc fdN)) wae (wbf waqn waqo wbhb noZ waqp waqq (fun x => wbbd x.1.1 x.1.2.1) (fun r => ((r, ()), ())) func113 wblg fun _ => by kernel_rfl)
theorem wbce : (waef).OK E_zb tt noZ (wai O_zb) (wab C_zb 0) := wcg (fun _ => rfl) fun _ _ => by kernel_rfl
theorem o_zb : wz E_zb tt noZ O_zb C_zb := wbd (by kernel_rfl) (lpC wbce lpN)
theorem wbcf : war prog (65, D_zb) := wad mixed (ww (fdN)) wae (wbf D_zb E_zb K_zb noZ O_zb C_zb (fun x => T_zb x.1.1) (fun r => ((r, ()), ())) func65 o_zb fun _ => by kernel_rfl)
theorem wblh : war prog (92, D_zw) := wad mixed (ww (fdC waxc (fdC wbcd (fdC wbcf fdN)))) wae (wbf D_zw (waa [(66, D_za), (113, waqn), (65, D_zb)]) K_zw noZ [] ((f92.body).getD .skip) (fun x => T_zw x.1.1 x.1.2.1) (fun r => ((r, ()), ())) func92 (wbd (by kernel_rfl) lpN) fun _ => by kernel_rfl)
theorem wbcg : (waeg).OK E_zz tt Z_zz (wai O_zz) (wab C_zz 0) := wcg (fun _ => rfl) fun _ _ => by kernel_rfl
theorem o_zz : wz E_zz tt Z_zz O_zz C_zz := wbd (by kernel_rfl) (lpC wbcg lpN)
theorem wbli : war prog (61, D_zz) := wad mixed (ww (fdC wbla (fdC wank (fdC wank (fdC wblh fdN))))) wae (wbf D_zz E_zz K_zz Z_zz O_zz C_zz (fun x => T_zz x.1.1) (fun r => (((), ()), (r, ()))) func61 o_zz fun _ => by kernel_rfl)
theorem wbch : (waeh).OK E_zj tt noZ (wai O_zj) (wab C_zj 0) := wcg (fun _ => rfl) fun _ _ => by kernel_rfl
theorem o_zj : wz E_zj tt noZ O_zj C_zj := wbd (by kernel_rfl) (lpC wbch lpN)
theorem wblj : war prog (152, D_zj) := wad mixed (ww (fdN)) wae (wbf D_zj E_zj K_zj noZ O_zj C_zj (fun x => T_zj x.1.1.1 x.1.1.2.1 x.1.2.1 x.1.2.2.1) (fun r => ((r, ()), ())) func152 o_zj fun _ => by kernel_rfl)
theorem wbci : (waei).OK E_zi tt noZ (wai O_zi) (wab C_zi 0) := wcg (fun _ => rfl) fun _ _ => by kernel_rfl
theorem o_zi : wz E_zi tt noZ O_zi C_zi := wbd (by kernel_rfl) (lpC wbci lpN)
theorem wblk : war prog (128, D_zi) := wad mixed (ww (fdC wblj fdN)) wae (wbf D_zi E_zi K_zi noZ O_zi C_zi (fun x => T_zi x.1.1.1 x.1.1.2.1 x.1.2.1) (fun r => (((), ()), (r, ()))) func128 o_zi fun _ => by kernel_rfl)
theorem wbcj : (waej).OK E_zf tt noZ (wai O_zf) (wab C_zf 0) := wcg (fun _ => rfl) fun _ _ => by kernel_rfl
theorem o_zf : wz E_zf tt noZ O_zf C_zf := wbd (by kernel_rfl) (lpC wbcj lpN)
theorem wbck : war prog (108, D_zf) := wad mixed (ww (fdC wblk fdN)) wae (wbf D_zf E_zf K_zf noZ O_zf C_zf (fun x => T_zf x.1.1.1 x.1.1.2.1 x.1.2.1) (fun r => (((), ()), (r, ()))) func108 o_zf fun _ => by kernel_rfl)
theorem waxe : (wxb).OK waqt tt noZ (wai waqu) (wab waqv 0) := wcg (fun _ => rfl) fun _ _ => by kernel_rfl
theorem wbll : wz waqt tt noZ waqu waqv := wbd (by kernel_rfl) (lpC waxe lpN)
theorem wbcl : war prog (42, waqs) := wad mixed (ww (fdN)) wae (wbf waqs waqt wbhz noZ waqu waqv (fun x => waqr x.1.1) (fun r => ((r, ()), ())) func42 wbll fun _ => by kernel_rfl)
theorem wbcm : war prog (84, D_zk) := wad mixed (ww (fdC wbck (fdC wbcl fdN))) wae (wbf D_zk (waa [(108, D_zf), (42, waqs)]) K_zk noZ [] ((f84.body).getD .skip) (fun x => T_zk x.1.1.1 x.1.1.2.1 x.1.2.1) (fun r => ((r, ()), ())) func84 (wbd (by kernel_rfl) lpN) fun _ => by kernel_rfl)
theorem wbcn : (wael).OK E_zg tt noZ (wai O_zg) (wab C_zg 0) := wcg (fun _ => rfl) fun _ _ => by kernel_rfl
theorem o_zg : wz E_zg tt noZ O_zg C_zg := wbd (by kernel_rfl) (lpC wbcn lpN)
theorem wbco : war prog (83, D_zg) := wad mixed (ww (fdN)) wae (wbf D_zg E_zg K_zg noZ O_zg C_zg (fun x => T_zg x.1.1.1 x.1.1.2.1 x.1.2.1) (fun r => ((r, ()), ())) func83 o_zg fun _ => by kernel_rfl)
theorem wblm : war prog (54, D_zl) := wad mixed (ww (fdC wbco (fdC wbcm fdN))) wae (wbf D_zl (waa [(83, D_zg), (84, D_zk)]) K_zl noZ [] ((f54.body).getD .skip) (fun x => T_zl x.1.1.1 x.1.1.2.1 x.1.2.1) (fun r => ((r, ()), ())) func54 (wbd (by kernel_rfl) lpN) fun _ => by kernel_rfl)
theorem waxf : (wxc).OK waqy tt noZ (wai waqz) (wab wara 0) := wcg (fun _ => rfl) fun _ _ => by kernel_rfl
theorem wbln : wz waqy tt noZ waqz wara := wbd (by kernel_rfl) (lpC waxf lpN)
theorem wbcp : war prog (114, waqx) := wad mixed (ww (fdN)) wae (wbf waqx waqy wbih noZ waqz wara (fun x => waqw x.1.1) (fun r => ((r, ()), ())) func114 wbln fun _ => by kernel_rfl)
theorem wblo : war prog (93, D_zh) := wad mixed (ww (fdC wbck (fdC wbcp fdN))) wae (wbf D_zh (waa [(108, D_zf), (114, waqx)]) K_zh noZ [] ((f93.body).getD .skip) (fun x => T_zh x.1.1.1 x.1.1.2.1 x.1.2.1) (fun r => ((r, ()), ())) func93 (wbd (by kernel_rfl) lpN) fun _ => by kernel_rfl)
theorem wblp : war prog (62, D_zm) := wad mixed (ww (fdC wbcm (fdC wbco (fdC wblm (fdC wblo fdN))))) wae (wbf D_zm (waa [(84, D_zk), (83, D_zg), (54, D_zl), (93, D_zh)]) K_zm noZ [] ((f62.body).getD .skip) (fun x => T_zm x.1.1.1 x.1.1.2.1 x.1.2.1 x.1.2.2.1) (fun r => ((r, ()), ())) func62 (wbd (by kernel_rfl) lpN) fun _ => by kernel_rfl)
theorem wblq : war prog (62, D_zn) := wuf wblp
theorem waxg : (wxd).OK wajp tt noZ (wai wajq) (wab wajr 2) := wcg (fun _ => rfl) fun _ _ => by kernel_rfl
theorem waxh : (wxe).OK wajp tt noZ (wai wajq) (wab wajr 0) := wcg (fun _ => rfl) fun _ _ => by kernel_rfl
theorem wblr : wz wajp tt noZ wajq wajr := wbd (by kernel_rfl) (lpC waxg (lpC waxh lpN))
theorem wbcq : war prog (115, warc) := wad mixed (ww (fdN)) wae (wbf warc wajp wbim noZ wajq wajr (fun x => warb x.1.2.1 x.1.2.2.1 x.1.2.2.2.1 x.2.1) (fun r => ((), (r, ()))) func115 wblr fun _ => by kernel_rfl)
theorem waxi : (wxf).OK warf tt noZ (wai warg) (wab warh 0) := wcg (fun _ => rfl) fun _ _ => by kernel_rfl
theorem wbls : wz warf tt noZ warg warh := wbd (by kernel_rfl) (lpC waxi lpN)
theorem wbcr : war prog (158, ware) := wad mixed (ww (fdN)) wae (wbf ware warf wbin noZ warg warh (fun x => ward x.1.2.1 x.1.2.2.1 x.1.2.2.2.1 x.1.2.2.2.2.1 x.2.1) (fun r => ((), (r, ()))) func158 wbls fun _ => by kernel_rfl)
theorem waxj : (wxg).OK wark tt noZ (wai warl) (wab warm 0) := wcg (fun _ => rfl) fun _ _ => by kernel_rfl
theorem wblt : wz wark tt noZ warl warm := wbd (by kernel_rfl) (lpC waxj lpN)
theorem wbcs : war prog (139, warj) := wad mixed (ww (fdC wbcr fdN)) wae (wbf warj wark wbio noZ warl warm (fun x => wari x.1.2.1 x.1.2.2.1 x.1.2.2.2.1 x.1.2.2.2.2.1 x.2.1) (fun r => ((), (r, ()))) func139 wblt fun _ => by kernel_rfl)
theorem waxk (rec_ : (Int) → (Int) → (Int) → ((HL [(.pair (.pair yi yi) .hdr), (.pair (.pair yi yi) .hdr)] → Option (Int))) → (List (Yc × ((Nat × Value) × Y1))) → Option (List (Yc × ((Nat × Value) × Y1)))) : (wxh rec_).OK (wur rec_) tt noZ (wai (wus rec_)) (wab wut 0) := wcg (fun _ => rfl) fun _ _ => by kernel_rfl
theorem waxl (rec_ : (Int) → (Int) → (Int) → ((HL [(.pair (.pair yi yi) .hdr), (.pair (.pair yi yi) .hdr)] → Option (Int))) → (List (Yc × ((Nat × Value) × Y1))) → Option (List (Yc × ((Nat × Value) × Y1)))) : (wxi rec_).OK (wur rec_) tt noZ (wai (wus rec_)) (wab wut 2) := wcg (fun _ => rfl) fun _ _ => by kernel_rfl
theorem waxm (rec_ : (Int) → (Int) → (Int) → ((HL [(.pair (.pair yi yi) .hdr), (.pair (.pair yi yi) .hdr)] → Option (Int))) → (List (Yc × ((Nat × Value) × Y1))) → Option (List (Yc × ((Nat × Value) × Y1)))) : (wxj rec_).OK (wur rec_) tt noZ (wai (wus rec_)) (wab wut 4) := wcg (fun _ => rfl) fun _ _ => by kernel_rfl
theorem waxn (rec_ : (Int) → (Int) → (Int) → ((HL [(.pair (.pair yi yi) .hdr), (.pair (.pair yi yi) .hdr)] → Option (Int))) → (List (Yc × ((Nat × Value) × Y1))) → Option (List (Yc × ((Nat × Value) × Y1)))) : (wxk rec_).OK (wur rec_) tt noZ (wai (wus rec_)) (wab wut 6) := wcg (fun _ => rfl) fun _ _ => by kernel_rfl
theorem waxo (rec_ : (Int) → (Int) → (Int) → ((HL [(.pair (.pair yi yi) .hdr), (.pair (.pair yi yi) .hdr)] → Option (Int))) → (List (Yc × ((Nat × Value) × Y1))) → Option (List (Yc × ((Nat × Value) × Y1)))) : (wxl rec_).OK (wur rec_) tt noZ (wai (wus rec_)) (wab wut 8) := wcg (fun _ => rfl) fun _ _ => by kernel_rfl
theorem wblu (rec_ : (Int) → (Int) → (Int) → ((HL [(.pair (.pair yi yi) .hdr), (.pair (.pair yi yi) .hdr)] → Option (Int))) → (List (Yc × ((Nat × Value) × Y1))) → Option (List (Yc × ((Nat × Value) × Y1)))) : wz (wur rec_) tt noZ (wus rec_) wut := wbd (by kernel_rfl) (lpC (waxk rec_) (lpC (waxl rec_) (lpC (waxm rec_) (lpC (waxn rec_) (lpC (waxo rec_) lpN)))))
theorem wanl : ∀ n : Nat, war prog (116, warn n)
 | 0 => fun _ _ h => nomatch h
 | n + 1 => wad mixed (ww (fdC wbcs (fdC (wanl n) fdN))) wae (wbf (warn (n + 1)) (wur (wex n)) wbip noZ (wus (wex n)) wut (fun x => waem (wex n) x.1.2.1 x.1.2.2.1 x.1.2.2.2.1 x.1.2.2.2.2.1 x.2.1) (fun r => ((), (r, ()))) func116 (wblu (wex n)) fun _ => by kernel_rfl)
theorem waxp : (wxm).OK waen tt noZ (wai waeo) (wab waep 0) := wcg (fun _ => rfl) fun _ _ => by kernel_rfl
theorem waxq : (wxn).OK waen tt noZ (wai waeo) (wab waep 4) := wcg (fun _ => rfl) fun _ _ => by kernel_rfl
theorem waxr : (wxo).OK waen tt noZ (wai waeo) (wab waep 2) := wcg (fun _ => rfl) fun _ _ => by kernel_rfl
theorem wblv : wz waen tt noZ waeo waep := wbd (by kernel_rfl) (lpC waxp (lpC waxq (lpC waxr lpN)))
theorem wbct : war prog (94, warq) := wad mixed (ww (fdC wbcq (fdC (wanl 1000000) fdN))) wae (wbf warq waen wbiq noZ waeo waep (fun x => waro x.1.2.1 x.1.2.2.1 x.2.1) (fun r => ((), (r, ()))) func94 wblv fun _ => by kernel_rfl)
theorem wanm : war prog (63, wajt) := wad mixed (ww (fdC wbct fdN)) wae (wbf wajt (waa [(94, warq)]) wbir noZ [] ((f63.body).getD .skip) (fun x => warr x.1.2.1 x.2.1) (fun r => ((), (r, ()))) func63 (wbd (by kernel_rfl) lpN) fun _ => by kernel_rfl)
theorem wblw : war prog (64, D_ze) := wad mixed (ww (fdC waxc (fdC wbcf fdN))) wae (wbf D_ze (waa [(66, D_za), (65, D_zb)]) K_ze noZ [] ((f64.body).getD .skip) (fun x => T_ze x.1.1.1 x.1.1.2.1 x.1.1.2.2.1 x.1.2.1.1 x.1.2.1.2.1 x.1.2.1.2.2.1) (fun r => ((r, ()), ())) func64 (wbd (by kernel_rfl) lpN) fun _ => by kernel_rfl)
theorem wgm : (wdd).OK wbs tt2 wco (wai wcp) (wab (.seq frL frT) 0) := wcg (fun _ => rfl) fun _ _ => by kernel_rfl
theorem wgn : (wde).OK wbs tt2 wco (wai wcp) (wab (.seq frL frT) 2) := wcg (fun _ => rfl) fun _ _ => by kernel_rfl
theorem wbcu : wz wbs tt2 wco wcp (.seq frL frT) := wbd (by kernel_rfl) (lpC wgm (lpC wgn lpN))
theorem envH : wfe prog wbs := ww (fdC wblq (fdC wanm (fdC wanm (fdC wblw fdN))))
theorem wann : war prog (29, waju) := wad mixed (ww (fdN)) wae (wbf waju (waa []) wbiu noZ [] ((f29.body).getD .skip) (fun x => wars x.1.1 x.1.2.1) (fun r => ((r, ()), ())) func29 (wbd (by kernel_rfl) lpN) fun _ => by kernel_rfl)
theorem waxs : (wxp).OK warv tt noZ (wai warw) (wab warx 0) := wcg (fun _ => rfl) fun _ _ => by kernel_rfl
theorem wblx : wz warv tt noZ warw warx := wbd (by kernel_rfl) (lpC waxs lpN)
theorem wbcv : war prog (30, waru) := wad mixed (ww (fdC wann fdN)) wae (wbf waru warv wbiv noZ warw warx (fun x => wart x.1.1 x.1.2.1) (fun r => ((r, ()), ())) func30 wblx fun _ => by kernel_rfl)
theorem wbcw : war prog (6, warz) := wad mixed (ww (fdC wann (fdC wbcv fdN))) wae (wbf warz (waa [(29, waju), (30, waru)]) wbiw noZ [] ((f6.body).getD .skip) (fun x => wary x.1.1.1 x.1.1.2.1 x.1.2.1) (fun r => ((r, ()), ())) func6 (wbd (by kernel_rfl) lpN) fun _ => by kernel_rfl)
theorem waxt : (wxq).OK wasb tt noZ (wai wasc) (wab wasd 0) := wcg (fun _ => rfl) fun _ _ => by kernel_rfl
theorem wbly : wz wasb tt noZ wasc wasd := wbd (by kernel_rfl) (lpC waxt lpN)
theorem wano : war prog (33, wajx) := wad mixed (ww (fdN)) wae (wbf wajx wasb wbix noZ wasc wasd (fun x => wasa x.1.1) (fun r => (((), ()), (r, ()))) func33 wbly fun _ => by kernel_rfl)
theorem waxu : (wxr).OK wash tt wasg (wai wasi) (wab wasj 0) := wcg (fun _ => rfl) fun _ _ => by kernel_rfl
theorem wblz : wz wash tt wasg wasi wasj := wbd (by kernel_rfl) (lpC waxu lpN)
theorem wbcx : war prog (34, wasf) := wad mixed (ww (fdC wano fdN)) wae (wbf wasf wash wbiy wasg wasi wasj (fun x => wase x.1.1) (fun r => (((), ()), (r, ()))) func34 wblz fun _ => by kernel_rfl)
theorem wbcy : war prog (8, wasl) := wad mixed (ww (fdC wano (fdC wbcx fdN))) wae (wbf wasl (waa [(33, wajx), (34, wasf)]) wbiz noZ [] ((f8.body).getD .skip) (fun x => wask x.1.1.1 x.1.1.2.1) (fun r => ((((), ((), ())), ()), (r.1, (r.2, ())))) func8 (wbd (by kernel_rfl) lpN) fun _ => by kernel_rfl)
theorem wafw : war prog (74, waet) := wad mixed (ww (fdN)) wae (wbf waet (waa []) wbja noZ [] ((f74.body).getD .skip) (fun x => wasm x.1.1 x.1.2.1 x.1.2.2.1) (fun r => ((r, ()), ())) func74 (wbd (by kernel_rfl) lpN) fun _ => by kernel_rfl)
theorem waxv : (wxs).OK wasp tt noZ (wai wasq) (wab wasr 0) := wcg (fun _ => rfl) fun _ _ => by kernel_rfl
theorem wbma : wz wasp tt noZ wasq wasr := wbd (by kernel_rfl) (lpC waxv lpN)
theorem wbcz : war prog (85, waso) := wad mixed (ww (fdC wafw fdN)) wae (wbf waso wasp wbjb noZ wasq wasr (fun x => wasn x.1.1 x.1.2.1 x.1.2.2.1) (fun r => ((r, ()), ())) func85 wbma fun _ => by kernel_rfl)
theorem waxw : (wxt).OK wasu tt noZ (wai wasv) (wab wasw 0) := wcg (fun _ => rfl) fun _ _ => by kernel_rfl
theorem wbmb : wz wasu tt noZ wasv wasw := wbd (by kernel_rfl) (lpC waxw lpN)
theorem wbda : war prog (55, wast) := wad mixed (ww (fdC wbcz (fdC wafw fdN))) wae (wbf wast wasu wbjc noZ wasv wasw (fun x => wass x.1.1.1 x.1.1.2.1) (fun r => ((r, ()), ())) func55 wbmb fun _ => by kernel_rfl)
theorem wbdb : war prog (56, wasy) := wad mixed (ww (fdC wafw fdN)) wae (wbf wasy (waa [(74, waet)]) wbjd noZ [] ((f56.body).getD .skip) (fun x => wasx x.1.1) (fun r => ((r, ()), ())) func56 (wbd (by kernel_rfl) lpN) fun _ => by kernel_rfl)
theorem wbdc : war prog (31, wata) := wad mixed (ww (fdC wbda (fdC wbdb fdN))) wae (wbf wata (waa [(55, wast), (56, wasy)]) wbje noZ [] ((f31.body).getD .skip) (fun x => wasz x.1.1.1 x.1.1.2.1 x.1.2.1 x.1.2.2.1) (fun r => ((r, ()), ())) func31 (wbd (by kernel_rfl) lpN) fun _ => by kernel_rfl)
theorem waxx : (wxu).OK watd tt noZ (wai wate) (wab watf 0) := wcg (fun _ => rfl) fun _ _ => by kernel_rfl
theorem wbmc : wz watd tt noZ wate watf := wbd (by kernel_rfl) (lpC waxx lpN)
theorem wbdd : war prog (86, watc) := wad mixed (ww (fdN)) wae (wbf watc watd wbjf noZ wate watf (fun x => wbbk x.1.1 x.1.2.1) (fun r => (((), ()), (r, ()))) func86 wbmc fun _ => by kernel_rfl)
theorem waxy : (wxv).OK wati tt noZ (wai watj) (wab watk 0) := wcg (fun _ => rfl) fun _ _ => by kernel_rfl
theorem wbmd : wz wati tt noZ watj watk := wbd (by kernel_rfl) (lpC waxy lpN)
theorem wbde : war prog (87, wath) := wad mixed (ww (fdN)) wae (wbf wath wati wbjg noZ watj watk (fun x => wbbm x.1.1 x.1.2.1) (fun r => ((r, ()), ())) func87 wbmd fun _ => by kernel_rfl)
theorem waxz : (wxw).OK wakf tt wakd (wai wakg) (wab wakh 2) := wcg (fun _ => rfl) fun _ _ => by kernel_rfl
theorem waya : (wxx).OK wakf tt wakd (wai wakg) (wab wakh 0) := wcg (fun _ => rfl) fun _ _ => by kernel_rfl
theorem wbme : wz wakf tt wakd wakg wakh := wbd (by kernel_rfl) (lpC waxz (lpC waya lpN))
theorem wbdf : war prog (57, watn) := wad mixed (ww (fdC wbdd (fdC wbde fdN))) wae (wbf watn wakf wbjh wakd wakg wakh (fun x => wbbo x.1.1) (fun r => ((r, ()), ())) func57 wbme fun _ => by kernel_rfl)
theorem wayb : (wxy).OK watq tt noZ (wai watr) (wab wats 0) := wcg (fun _ => rfl) fun _ _ => by kernel_rfl
theorem wbmf : wz watq tt noZ watr wats := wbd (by kernel_rfl) (lpC wayb lpN)
theorem wbdg : war prog (126, watp) := wad mixed (ww (fdN)) wae (wbf watp watq wbji noZ watr wats (fun x => wato x.1.1.1 x.1.1.2.1 x.1.2.1 x.1.2.2.1) (fun r => ((r, ()), ())) func126 wbmf fun _ => by kernel_rfl)
theorem wanp : war prog (104, wakj) := wad mixed (ww (fdC wbdg fdN)) wae (wbf wakj (waa [(126, watp)]) wbjj noZ [] ((f104.body).getD .skip) (fun x => watt x.1.1.1 x.1.1.2.1 x.1.2.1 x.1.2.2.1) (fun r => ((r, ()), ())) func104 (wbd (by kernel_rfl) lpN) fun _ => by kernel_rfl)
theorem wayc : (wxz).OK watv tt noZ (wai watw) (wab watx 0) := wcg (fun _ => rfl) fun _ _ => by kernel_rfl
theorem wbmg : wz watv tt noZ watw watx := wbd (by kernel_rfl) (lpC wayc lpN)
theorem wanq : war prog (75, wakk) := wad mixed (ww (fdC wanp fdN)) wae (wbf wakk watv wbjk noZ watw watx (fun x => watu x.1.1.1 x.1.1.2.1 x.1.2.1) (fun r => ((r, ()), ())) func75 wbmg fun _ => by kernel_rfl)
theorem wayd : (wya).OK watz tt noZ (wai waua) (wab waub 0) := wcg (fun _ => rfl) fun _ _ => by kernel_rfl
theorem wbmh : wz watz tt noZ waua waub := wbd (by kernel_rfl) (lpC wayd lpN)
theorem wanr : war prog (76, wakl) := wad mixed (ww (fdN)) wae (wbf wakl watz wbjl noZ waua waub (fun x => waty x.1.1.1 x.1.1.2.1 x.1.2.1) (fun r => ((r, ()), ())) func76 wbmh fun _ => by kernel_rfl)
theorem wbdh : war prog (48, waud) := wad mixed (ww (fdC wanq (fdC wanr fdN))) wae (wbf waud (waa [(75, wakk), (76, wakl)]) wbjm noZ [] ((f48.body).getD .skip) (fun x => wauc x.1.1.1 x.1.1.2.1 x.1.2.1) (fun r => ((r, ()), ())) func48 (wbd (by kernel_rfl) lpN) fun _ => by kernel_rfl)
theorem wbdi : war prog (109, wauf) := wad mixed (ww (fdN)) wae (wbf wauf (waa []) wbjn noZ [] ((f109.body).getD .skip) (fun x => waue x.1.1 x.1.2.1) (fun r => ((r, ()), ())) func109 (wbd (by kernel_rfl) lpN) fun _ => by kernel_rfl)
theorem waye : (wyb).OK waui tt noZ (wai wauj) (wab wauk 0) := wcg (fun _ => rfl) fun _ _ => by kernel_rfl
theorem wbmi : wz waui tt noZ wauj wauk := wbd (by kernel_rfl) (lpC waye lpN)
theorem wbdj : war prog (89, wauh) := wad mixed (ww (fdC wanp (fdC wbdi fdN))) wae (wbf wauh waui wbjo noZ wauj wauk (fun x => waug x.1.1.1 x.1.1.2.1 x.1.2.1) (fun r => ((r, ()), ())) func89 wbmi fun _ => by kernel_rfl)
theorem wbdk : war prog (59, waum) := wad mixed (ww (fdC wanq (fdC wanr (fdC wbdh (fdC wbdj fdN))))) wae (wbf waum (waa [(75, wakk), (76, wakl), (48, waud), (89, wauh)]) wbjp noZ [] ((f59.body).getD .skip) (fun x => waul x.1.1.1 x.1.1.2.1 x.1.2.1 x.1.2.2.1) (fun r => ((r, ()), ())) func59 (wbd (by kernel_rfl) lpN) fun _ => by kernel_rfl)
theorem wbdl : war prog (88, wauo) := wad mixed (ww (fdN)) wae (wbf wauo (waa []) wbjq noZ [] ((f88.body).getD .skip) (fun x => waun x.1.1.1 x.1.1.2.1 x.1.2.1.1 x.1.2.1.2.1) (fun r => ((r, ()), ())) func88 (wbd (by kernel_rfl) lpN) fun _ => by kernel_rfl)
theorem wayf : (wyc).OK wakq tt noZ (wai wakr) (wab waks 0) := wcg (fun _ => rfl) fun _ _ => by kernel_rfl
theorem wayg : (wyd).OK wakq tt noZ (wai wakr) (wab waks 2) := wcg (fun _ => rfl) fun _ _ => by kernel_rfl
theorem wbmj : wz wakq tt noZ wakr waks := wbd (by kernel_rfl) (lpC wayf (lpC wayg lpN))
theorem wbdm : war prog (58, wauq) := wad mixed (ww (fdC wbdl fdN)) wae (wbf wauq wakq wbjr noZ wakr waks (fun x => waup x.1.1 x.1.2.1 x.1.2.2.1.1 x.1.2.2.1.2.1 x.1.2.2.2.1) (fun r => ((r.1, (r.2, ())), ())) func58 wbmj fun _ => by kernel_rfl)
theorem wayh : (wye).OK wauu tt waut (wai wauv) (wab wauw 0) := wcg (fun _ => rfl) fun _ _ => by kernel_rfl
theorem wbmk : wz wauu tt waut wauv wauw := wbd (by kernel_rfl) (lpC wayh lpN)
theorem wbdn : war prog (32, waus) := wad mixed (ww (fdC wbdf (fdC wbdk (fdC wbdm fdN)))) wae (wbf waus wauu wbjs waut wauv wauw (fun x => waur x.1.1.1 x.1.1.2.1 x.1.2.1 x.1.2.2.1) (fun r => ((r.1, (r.2, ())), ())) func32 wbmk fun _ => by kernel_rfl)
theorem wbdo : war prog (7, wauy) := wad mixed (ww (fdC wbdc (fdC wbdn fdN))) wae (wbf wauy (waa [(31, wata), (32, waus)]) wbjt wbju [] ((f7.body).getD .skip) (fun x => waux x.1.1.1 x.1.1.2.1 x.1.2.1 x.1.2.2.1) (fun r => ((r.1, (r.2, ())), ())) func7 (wbd (by kernel_rfl) lpN) fun _ => by kernel_rfl)
theorem wayi : war prog (71, D_zv) := wad mixed (ww (fdN)) wae (wbf D_zv (waa []) K_zv noZ [] ((f71.body).getD .skip) (fun x => T_zv x.1.1 x.1.2.1 x.1.2.2.1) (fun r => ((r, ()), ())) func71 (wbd (by kernel_rfl) lpN) fun _ => by kernel_rfl)
theorem wayj : (wyf).OK wavb tt noZ (wai wavc) (wab wavd 0) := wcg (fun _ => rfl) fun _ _ => by kernel_rfl
theorem wbml : wz wavb tt noZ wavc wavd := wbd (by kernel_rfl) (lpC wayj lpN)
theorem wbdp : war prog (127, wava) := wad mixed (ww (fdN)) wae (wbf wava wavb wbjw noZ wavc wavd (fun x => wauz x.1.1 x.1.2.1) (fun r => ((r, ()), ())) func127 wbml fun _ => by kernel_rfl)
theorem wans : war prog (105, wakx) := wad mixed (ww (fdC wbdp fdN)) wae (wbf wakx (waa [(127, wava)]) wbjx noZ [] ((f105.body).getD .skip) (fun x => wave x.1.1 x.1.2.1) (fun r => ((r, ()), ())) func105 (wbd (by kernel_rfl) lpN) fun _ => by kernel_rfl)
theorem wbmm : war prog (106, D_zs) := wad mixed (ww (fdC wayi fdN)) wae (wbf D_zs (waa [(71, D_zv)]) K_zs noZ [] ((f106.body).getD .skip) (fun x => T_zs x.1.1 x.1.2.1.1 x.1.2.2.1.1) (fun r => ((r, ()), ())) func106 (wbd (by kernel_rfl) lpN) fun _ => by kernel_rfl)
theorem wbdq : war prog (77, D_zr) := wad mixed (ww (fdC wans (fdC wans (fdC wbmm fdN)))) wae (wbf D_zr (waa [(105, wakx), (105, wakx), (106, D_zs)]) K_zr noZ [] ((f77.body).getD .skip) (fun x => T_zr x.1.1 x.1.2.1 x.1.2.2.1) (fun r => ((r, ()), ())) func77 (wbd (by kernel_rfl) lpN) fun _ => by kernel_rfl)
theorem wayk : (wyg).OK wavh tt noZ (wai wavi) (wab wavj 0) := wcg (fun _ => rfl) fun _ _ => by kernel_rfl
theorem wbmn : wz wavh tt noZ wavi wavj := wbd (by kernel_rfl) (lpC wayk lpN)
theorem wbdr : war prog (107, wavg) := wad mixed (ww (fdN)) wae (wbf wavg wavh wbkc noZ wavi wavj (fun x => wavf x.1.1 x.1.2.1) (fun r => ((r, ()), ())) func107 wbmn fun _ => by kernel_rfl)
theorem wanu : war prog (78, wala) := wad mixed (ww (fdC wbdr fdN)) wae (wbf wala (waa [(107, wavg)]) wbkd noZ [] ((f78.body).getD .skip) (fun x => wavk x.1.1 x.1.2.1) (fun r => ((r, ()), ())) func78 (wbd (by kernel_rfl) lpN) fun _ => by kernel_rfl)
theorem wbmo : war prog (79, D_zq) := wad mixed (ww (fdC wbdq fdN)) wae (wbf D_zq (waa [(77, D_zr)]) K_zq noZ [] ((f79.body).getD .skip) (fun x => T_zq x.1.1 x.1.2.1.1 x.1.2.1.2.1) (fun r => ((r, ()), ())) func79 (wbd (by kernel_rfl) lpN) fun _ => by kernel_rfl)
theorem wbmp : war prog (49, D_zp) := wad mixed (ww (fdC wayi (fdC wbdq (fdC wanu (fdC wanu (fdC wbmo fdN)))))) wae (wbf D_zp (waa [(71, D_zv), (77, D_zr), (78, wala), (78, wala), (79, D_zq)]) K_zp noZ [] ((f49.body).getD .skip) (fun x => T_zp x.1.1.1 x.1.1.2.1) (fun r => ((r, ()), ())) func49 (wbd (by kernel_rfl) lpN) fun _ => by kernel_rfl)
theorem wbmq : war prog (60, D_zy) := wad mixed (ww (fdC wayi fdN)) wae (wbf D_zy (waa [(71, D_zv)]) K_zy noZ [] ((f60.body).getD .skip) (fun x => T_zy x.1.1) (fun r => ((r, ()), ())) func60 (wbd (by kernel_rfl) lpN) fun _ => by kernel_rfl)
theorem wbmr : war prog (35, D_zx) := wad mixed (ww (fdC wbmp (fdC wbmq fdN))) wae (wbf D_zx (waa [(49, D_zp), (60, D_zy)]) K_zx noZ [] ((f35.body).getD .skip) (fun x => T_zx x.1.1.1 x.1.1.2.1 x.1.2.1 x.1.2.2.1) (fun r => ((r, ()), ())) func35 (wbd (by kernel_rfl) lpN) fun _ => by kernel_rfl)
theorem wbms : war prog (36, D_zd) := waad mixed wbli envH wbbs wbcu (by kernel_rfl) fun _ _ _ _ _ => by kernel_rfl
theorem wbmt : war prog (9, D_zo) := wad mixed (ww (fdC wbmr (fdC wbms fdN))) wae (wbf D_zo (waa [(35, D_zx), (36, D_zd)]) K_zo noZ [] ((f9.body).getD .skip) (fun x => T_zo x.1.1.1 x.1.1.2.1 x.1.2.1 x.1.2.2.1) (fun r => (((), (r.1, ())), (r.2, ()))) func9 (wbd (by kernel_rfl) lpN) fun _ => by kernel_rfl)
theorem wayl : (wyh).OK wavm tt noZ (wai wavn) (wab wavo 0) := wcg (fun _ => rfl) fun _ _ => by kernel_rfl
theorem wbmu : wz wavm tt noZ wavn wavo := wbd (by kernel_rfl) (lpC wayl lpN)
theorem wanv : war prog (37, walb) := wad mixed (ww (fdN)) wae (wbf walb wavm wbkp noZ wavn wavo (fun x => wavl x.1.1 x.1.2.1) (fun r => ((r, ()), ())) func37 wbmu fun _ => by kernel_rfl)
theorem waym : (wyi).OK wavq tt noZ (wai wavr) (wab wavs 0) := wcg (fun _ => rfl) fun _ _ => by kernel_rfl
theorem wbmv : wz wavq tt noZ wavr wavs := wbd (by kernel_rfl) (lpC waym lpN)
theorem wanw : war prog (10, walc) := wad mixed (ww (fdC wanv fdN)) wae (wbf walc wavq wbkq noZ wavr wavs (fun x => wavp x.1.1 x.1.2.1) (fun r => ((r, ()), ())) func10 wbmv fun _ => by kernel_rfl)
theorem wbds : war prog (11, wavu) := wad mixed (ww (fdC wanv (fdC wanw fdN))) wae (wbf wavu (waa [(37, walb), (10, walc)]) wbkr noZ [] ((f11.body).getD .skip) (fun x => wavt x.1.1.1 x.1.1.2.1 x.1.2.1.1 x.1.2.1.2.1) (fun r => ((r, ()), ())) func11 (wbd (by kernel_rfl) lpN) fun _ => by kernel_rfl)
theorem wayn : (wyj).OK wavw tt noZ (wai wavx) (wab wavy 0) := wcg (fun _ => rfl) fun _ _ => by kernel_rfl
theorem wbmw : wz wavw tt noZ wavx wavy := wbd (by kernel_rfl) (lpC wayn lpN)
theorem wanx : war prog (38, wale) := wad mixed (ww (fdN)) wae (wbf wale wavw wbks noZ wavx wavy (fun x => wavv x.1.2.1 x.2.1) (fun r => ((r.1, ()), (r.2, ()))) func38 wbmw fun _ => by kernel_rfl)
theorem wayo : (wyk).OK wawb tt wawa (wai wawc) (wab wawd 0) := wcg (fun _ => rfl) fun _ _ => by kernel_rfl
theorem wbmx : wz wawb tt wawa wawc wawd := wbd (by kernel_rfl) (lpC wayo lpN)
theorem wany : war prog (13, walf) := wad mixed (ww (fdC wanx fdN)) wae (wbf walf wawb wbkt wawa wawc wawd (fun x => wavz x.1.2.1 x.2.1) (fun r => ((r.1, ()), (r.2, ()))) func13 wbmx fun _ => by kernel_rfl)
theorem wbdt : war prog (12, wawf) := wad mixed (ww (fdC wanx (fdC wany fdN))) wae (wbf wawf (waa [(38, wale), (13, walf)]) wbku noZ [] ((f12.body).getD .skip) (fun x => wawe x.1.2.1 x.2.1 x.2.2.1) (fun r => ((r.1, ()), (r.2.1, (r.2.2, ())))) func12 (wbd (by kernel_rfl) lpN) fun _ => by kernel_rfl)
theorem wayp : (wyl).OK wawi tt noZ (wai wawj) (wab wawk 0) := wcg (fun _ => rfl) fun _ _ => by kernel_rfl
theorem wbmy : wz wawi tt noZ wawj wawk := wbd (by kernel_rfl) (lpC wayp lpN)
theorem wbdu : war prog (39, wawh) := wad mixed (ww (fdN)) wae (wbf wawh wawi wbkv noZ wawj wawk (fun x => wawg x.1.1 x.1.2.1) (fun r => ((r, ()), ())) func39 wbmy fun _ => by kernel_rfl)
theorem wayq : (wym).OK wawn tt noZ (wai wawo) (wab wawp 0) := wcg (fun _ => rfl) fun _ _ => by kernel_rfl
theorem wbmz : wz wawn tt noZ wawo wawp := wbd (by kernel_rfl) (lpC wayq lpN)
theorem wbdv : war prog (14, wawm) := wad mixed (ww (fdC wbdu fdN)) wae (wbf wawm wawn wbkw noZ wawo wawp (fun x => wawl x.1.1 x.1.2.1) (fun r => ((r, ()), ())) func14 wbmz fun _ => by kernel_rfl)
theorem wbdw : war prog (3, waws) := wad mixed (ww (fdC wbcw (fdC wbcy (fdC wbdo (fdC wbmt (fdC wanw (fdC wbds (fdC wbdt (fdC wany (fdC wbdv fdN)))))))))) wae (wbf waws (waa [(6, warz), (8, wasl), (7, wauy), (9, D_zo), (10, walc), (11, wavu), (12, wawf), (13, walf), (14, wawm)]) wbkx wbky [] ((f3.body).getD .skip) (fun x => wawq x.1.1.1 x.1.1.2.1 x.1.2.1 x.1.2.2.1) (fun r => ((r, ()), ())) func3 (wbd (by kernel_rfl) lpN) fun _ => by kernel_rfl)
end Go.Proofs.Ytnagpmhaddfgmaa
