/-
 The evaluator hands back, for the code of each function that the claim reaches, what its typed function says. No conditions.
-/
import Derived.Test.YtnagpmhaddfgmaaC1
namespace Go.Proofs.Ytnagpmhaddfgmaa
open Go.Proofs.Try
open List (length getD set)
open Int (toNat)
open IntKind (wrap)
theorem mixed : prog.follows .mixedOrders = true := by kernel_rfl
theorem wae : wal prog tt := wbes (by kernel_rfl)
theorem waru : wat prog (29, walr) := wad mixed (ww (fdN)) wae (wbb walr (wac []) wblm noZ [] ((f29.body).getD .skip) (fun x => watv x.1.1 x.1.2.1) (fun r => ((r, ()), ())) func29 (wbc (by kernel_rfl) lpN) fun _ => by kernel_rfl)
theorem wbam : (wya).OK waty tt noZ (wai watz) (wab waua 0) := wbx (fun _ => rfl) fun _ _ => by kernel_rfl
theorem wbqi : wz waty tt noZ watz waua := wbc (by kernel_rfl) (lpC wbam lpN)
theorem wbfh : wat prog (30, watx) := wad mixed (ww (fdC waru fdN)) wae (wbb watx waty wbln noZ watz waua (fun x => watw x.1.1 x.1.2.1) (fun r => ((r, ()), ())) func30 wbqi fun _ => by kernel_rfl)
theorem wbfi : wat prog (6, wauc) := wad mixed (ww (fdC waru (fdC wbfh fdN))) wae (wbb wauc (wac [(29, walr), (30, watx)]) wblo noZ [] ((f6.body).getD .skip) (fun x => waub x.1.1.1 x.1.1.2.1 x.1.2.1) (fun r => ((r, ()), ())) func6 (wbc (by kernel_rfl) lpN) fun _ => by kernel_rfl)
theorem wban : (wyb).OK waue tt noZ (wai wauf) (wab waug 0) := wbx (fun _ => rfl) fun _ _ => by kernel_rfl
theorem wbqj : wz waue tt noZ wauf waug := wbc (by kernel_rfl) (lpC wban lpN)
theorem warv : wat prog (33, walu) := wad mixed (ww (fdN)) wae (wbb walu waue wblp noZ wauf waug (fun x => waud x.1.1) (fun r => (((), ()), (r, ()))) func33 wbqj fun _ => by kernel_rfl)
theorem wbao : (wyc).OK wauk tt wauj (wai waul) (wab waum 0) := wbx (fun _ => rfl) fun _ _ => by kernel_rfl
theorem wbqk : wz wauk tt wauj waul waum := wbc (by kernel_rfl) (lpC wbao lpN)
theorem wbfj : wat prog (34, waui) := wad mixed (ww (fdC warv fdN)) wae (wbb waui wauk wblq wauj waul waum (fun x => wauh x.1.1) (fun r => (((), ()), (r, ()))) func34 wbqk fun _ => by kernel_rfl)
theorem wbfk : wat prog (8, wauo) := wad mixed (ww (fdC warv (fdC wbfj fdN))) wae (wbb wauo (wac [(33, walu), (34, waui)]) wblr noZ [] ((f8.body).getD .skip) (fun x => waun x.1.1.1 x.1.1.2.1) (fun r => ((((), ((), ())), ()), (r.1, (r.2, ())))) func8 (wbc (by kernel_rfl) lpN) fun _ => by kernel_rfl)
theorem wahh : wat prog (74, wafn) := wad mixed (ww (fdN)) wae (wbb wafn (wac []) wbls noZ [] ((f74.body).getD .skip) (fun x => waup x.1.1 x.1.2.1 x.1.2.2.1) (fun r => ((r, ()), ())) func74 (wbc (by kernel_rfl) lpN) fun _ => by kernel_rfl)
theorem wbap : (wyd).OK waus tt noZ (wai waut) (wab wauu 0) := wbx (fun _ => rfl) fun _ _ => by kernel_rfl
theorem wbql : wz waus tt noZ waut wauu := wbc (by kernel_rfl) (lpC wbap lpN)
theorem wbfl : wat prog (85, waur) := wad mixed (ww (fdC wahh fdN)) wae (wbb waur waus wblt noZ waut wauu (fun x => wauq x.1.1 x.1.2.1 x.1.2.2.1) (fun r => ((r, ()), ())) func85 wbql fun _ => by kernel_rfl)
theorem wbaq : (wye).OK waux tt noZ (wai wauy) (wab wauz 0) := wbx (fun _ => rfl) fun _ _ => by kernel_rfl
theorem wbqm : wz waux tt noZ wauy wauz := wbc (by kernel_rfl) (lpC wbaq lpN)
theorem wbfm : wat prog (55, wauw) := wad mixed (ww (fdC wbfl (fdC wahh fdN))) wae (wbb wauw waux wblu noZ wauy wauz (fun x => wauv x.1.1.1 x.1.1.2.1) (fun r => ((r, ()), ())) func55 wbqm fun _ => by kernel_rfl)
theorem wbfn : wat prog (56, wavb) := wad mixed (ww (fdC wahh fdN)) wae (wbb wavb (wac [(74, wafn)]) wblv noZ [] ((f56.body).getD .skip) (fun x => wava x.1.1) (fun r => ((r, ()), ())) func56 (wbc (by kernel_rfl) lpN) fun _ => by kernel_rfl)
theorem wbfo : wat prog (31, wavd) := wad mixed (ww (fdC wbfm (fdC wbfn fdN))) wae (wbb wavd (wac [(55, wauw), (56, wavb)]) wblw noZ [] ((f31.body).getD .skip) (fun x => wavc x.1.1.1 x.1.1.2.1 x.1.2.1 x.1.2.2.1) (fun r => ((r, ()), ())) func31 (wbc (by kernel_rfl) lpN) fun _ => by kernel_rfl)
theorem wbar : (wyf).OK wavf tt noZ (wai wavg) (wab wavh 0) := wbx (fun _ => rfl) fun _ _ => by kernel_rfl
theorem wbqn : wz wavf tt noZ wavg wavh := wbc (by kernel_rfl) (lpC wbar lpN)
theorem wbfp : wat prog (86, wave) := wad mixed (ww (fdN)) wae (wbb wave wavf wblx noZ wavg wavh (fun x => walz x.1.1 x.1.2.1) (fun r => (((), ()), (r, ()))) func86 wbqn fun _ => by kernel_rfl)
theorem wbas : (wyg).OK wavj tt noZ (wai wavk) (wab wavl 0) := wbx (fun _ => rfl) fun _ _ => by kernel_rfl
theorem wbqo : wz wavj tt noZ wavk wavl := wbc (by kernel_rfl) (lpC wbas lpN)
theorem wbfq : wat prog (87, wavi) := wad mixed (ww (fdN)) wae (wbb wavi wavj wbly noZ wavk wavl (fun x => wamb x.1.1 x.1.2.1) (fun r => ((r, ()), ())) func87 wbqo fun _ => by kernel_rfl)
theorem wbat : (wyh).OK wamf tt wame (wai wamg) (wab wamh 2) := wbx (fun _ => rfl) fun _ _ => by kernel_rfl
theorem wbau : (wyi).OK wamf tt wame (wai wamg) (wab wamh 0) := wbx (fun _ => rfl) fun _ _ => by kernel_rfl
theorem wbqp : wz wamf tt wame wamg wamh := wbc (by kernel_rfl) (lpC wbat (lpC wbau lpN))
theorem wbfr : wat prog (57, wavm) := wad mixed (ww (fdC wbfp (fdC wbfq fdN))) wae (wbb wavm wamf wblz wame wamg wamh (fun x => wamd x.1.1) (fun r => ((r, ()), ())) func57 wbqp fun _ => by kernel_rfl)
theorem wbav : (wyj).OK wavp tt noZ (wai wavq) (wab wavr 0) := wbx (fun _ => rfl) fun _ _ => by kernel_rfl
theorem wbqq : wz wavp tt noZ wavq wavr := wbc (by kernel_rfl) (lpC wbav lpN)
theorem wbfs : wat prog (126, wavo) := wad mixed (ww (fdN)) wae (wbb wavo wavp wbma noZ wavq wavr (fun x => wavn x.1.1.1 x.1.1.2.1 x.1.2.1 x.1.2.2.1) (fun r => ((r, ()), ())) func126 wbqq fun _ => by kernel_rfl)
theorem warw : wat prog (104, wamj) := wad mixed (ww (fdC wbfs fdN)) wae (wbb wamj (wac [(126, wavo)]) wbmb noZ [] ((f104.body).getD .skip) (fun x => wavs x.1.1.1 x.1.1.2.1 x.1.2.1 x.1.2.2.1) (fun r => ((r, ()), ())) func104 (wbc (by kernel_rfl) lpN) fun _ => by kernel_rfl)
theorem wbaw : (wyk).OK wavu tt noZ (wai wavv) (wab wavw 0) := wbx (fun _ => rfl) fun _ _ => by kernel_rfl
theorem wbqr : wz wavu tt noZ wavv wavw := wbc (by kernel_rfl) (lpC wbaw lpN)
theorem warx : wat prog (75, wamk) := wad mixed (ww (fdC warw fdN)) wae (wbb wamk wavu wbmc noZ wavv wavw (fun x => wavt x.1.1.1 x.1.1.2.1 x.1.2.1) (fun r => ((r, ()), ())) func75 wbqr fun _ => by kernel_rfl)
theorem wbax : (wyl).OK wavy tt noZ (wai wavz) (wab wawa 0) := wbx (fun _ => rfl) fun _ _ => by kernel_rfl
theorem wbqs : wz wavy tt noZ wavz wawa := wbc (by kernel_rfl) (lpC wbax lpN)
theorem wary : wat prog (76, waml) := wad mixed (ww (fdN)) wae (wbb waml wavy wbmd noZ wavz wawa (fun x => wavx x.1.1.1 x.1.1.2.1 x.1.2.1) (fun r => ((r, ()), ())) func76 wbqs fun _ => by kernel_rfl)
theorem wbft : wat prog (48, wawc) := wad mixed (ww (fdC warx (fdC wary fdN))) wae (wbb wawc (wac [(75, wamk), (76, waml)]) wbme noZ [] ((f48.body).getD .skip) (fun x => wawb x.1.1.1 x.1.1.2.1 x.1.2.1) (fun r => ((r, ()), ())) func48 (wbc (by kernel_rfl) lpN) fun _ => by kernel_rfl)
theorem wbfu : wat prog (109, wawe) := wad mixed (ww (fdN)) wae (wbb wawe (wac []) wbmf noZ [] ((f109.body).getD .skip) (fun x => wawd x.1.1 x.1.2.1) (fun r => ((r, ()), ())) func109 (wbc (by kernel_rfl) lpN) fun _ => by kernel_rfl)
theorem wbay : (wym).OK wawh tt noZ (wai wawi) (wab wawj 0) := wbx (fun _ => rfl) fun _ _ => by kernel_rfl
theorem wbqt : wz wawh tt noZ wawi wawj := wbc (by kernel_rfl) (lpC wbay lpN)
theorem wbfv : wat prog (89, wawg) := wad mixed (ww (fdC warw (fdC wbfu fdN))) wae (wbb wawg wawh wbmg noZ wawi wawj (fun x => wawf x.1.1.1 x.1.1.2.1 x.1.2.1) (fun r => ((r, ()), ())) func89 wbqt fun _ => by kernel_rfl)
theorem wbfw : wat prog (59, wawl) := wad mixed (ww (fdC warx (fdC wary (fdC wbft (fdC wbfv fdN))))) wae (wbb wawl (wac [(75, wamk), (76, waml), (48, wawc), (89, wawg)]) wbmh noZ [] ((f59.body).getD .skip) (fun x => wawk x.1.1.1 x.1.1.2.1 x.1.2.1 x.1.2.2.1) (fun r => ((r, ()), ())) func59 (wbc (by kernel_rfl) lpN) fun _ => by kernel_rfl)
theorem wbfx : wat prog (88, wawn) := wad mixed (ww (fdN)) wae (wbb wawn (wac []) wbmi noZ [] ((f88.body).getD .skip) (fun x => wawm x.1.1.1 x.1.1.2.1 x.1.2.1.1 x.1.2.1.2.1) (fun r => ((r, ()), ())) func88 (wbc (by kernel_rfl) lpN) fun _ => by kernel_rfl)
theorem wbaz : (wyn).OK wamq tt noZ (wai wamr) (wab wams 0) := wbx (fun _ => rfl) fun _ _ => by kernel_rfl
theorem wbba : (wyo).OK wamq tt noZ (wai wamr) (wab wams 2) := wbx (fun _ => rfl) fun _ _ => by kernel_rfl
theorem wbqu : wz wamq tt noZ wamr wams := wbc (by kernel_rfl) (lpC wbaz (lpC wbba lpN))
theorem wbfy : wat prog (58, wawp) := wad mixed (ww (fdC wbfx fdN)) wae (wbb wawp wamq wbmj noZ wamr wams (fun x => wawo x.1.1 x.1.2.1 x.1.2.2.1.1 x.1.2.2.1.2.1 x.1.2.2.2.1) (fun r => ((r.1, (r.2, ())), ())) func58 wbqu fun _ => by kernel_rfl)
theorem wbbb : (wyp).OK wawt tt waws (wai wawu) (wab wawv 0) := wbx (fun _ => rfl) fun _ _ => by kernel_rfl
theorem wbqv : wz wawt tt waws wawu wawv := wbc (by kernel_rfl) (lpC wbbb lpN)
theorem wbfz : wat prog (32, wawr) := wad mixed (ww (fdC wbfr (fdC wbfw (fdC wbfy fdN)))) wae (wbb wawr wawt wbmk waws wawu wawv (fun x => wawq x.1.1.1 x.1.1.2.1 x.1.2.1 x.1.2.2.1) (fun r => ((r.1, (r.2, ())), ())) func32 wbqv fun _ => by kernel_rfl)
theorem wbga : wat prog (15, wawx) := wad mixed (ww (fdC wbfo (fdC wbfz fdN))) wae (wbb wawx (wac [(31, wavd), (32, wawr)]) wbml noZ [] ((f15.body).getD .skip) (fun x => waww x.1.1.1 x.1.1.2.1 x.1.2.1 x.1.2.2.1) (fun r => ((r.1, (r.2, ())), ())) func15 (wbc (by kernel_rfl) lpN) fun _ => by kernel_rfl)
theorem wbbc : wat prog (71, D_zu) := wad mixed (ww (fdN)) wae (wbb D_zu (wac []) K_zu noZ [] ((f71.body).getD .skip) (fun x => T_zu x.1.1 x.1.2.1 x.1.2.2.1) (fun r => ((r, ()), ())) func71 (wbc (by kernel_rfl) lpN) fun _ => by kernel_rfl)
theorem wbbd : (wyq).OK waxa tt noZ (wai waxb) (wab waxc 0) := wbx (fun _ => rfl) fun _ _ => by kernel_rfl
theorem wbqw : wz waxa tt noZ waxb waxc := wbc (by kernel_rfl) (lpC wbbd lpN)
theorem wbgb : wat prog (127, wawz) := wad mixed (ww (fdN)) wae (wbb wawz waxa wbmn noZ waxb waxc (fun x => wawy x.1.1 x.1.2.1) (fun r => ((r, ()), ())) func127 wbqw fun _ => by kernel_rfl)
theorem warz : wat prog (105, wamx) := wad mixed (ww (fdC wbgb fdN)) wae (wbb wamx (wac [(127, wawz)]) wbmo noZ [] ((f105.body).getD .skip) (fun x => waxd x.1.1 x.1.2.1) (fun r => ((r, ()), ())) func105 (wbc (by kernel_rfl) lpN) fun _ => by kernel_rfl)
theorem wbqx : wat prog (106, D_zr) := wad mixed (ww (fdC wbbc fdN)) wae (wbb D_zr (wac [(71, D_zu)]) K_zr noZ [] ((f106.body).getD .skip) (fun x => T_zr x.1.1 x.1.2.1.1 x.1.2.2.1.1) (fun r => ((r, ()), ())) func106 (wbc (by kernel_rfl) lpN) fun _ => by kernel_rfl)
theorem wbgc : wat prog (77, D_zq) := wad mixed (ww (fdC warz (fdC warz (fdC wbqx fdN)))) wae (wbb D_zq (wac [(105, wamx), (105, wamx), (106, D_zr)]) K_zq noZ [] ((f77.body).getD .skip) (fun x => T_zq x.1.1 x.1.2.1 x.1.2.2.1) (fun r => ((r, ()), ())) func77 (wbc (by kernel_rfl) lpN) fun _ => by kernel_rfl)
theorem wbbe : (wyr).OK waxg tt noZ (wai waxh) (wab waxi 0) := wbx (fun _ => rfl) fun _ _ => by kernel_rfl
theorem wbqy : wz waxg tt noZ waxh waxi := wbc (by kernel_rfl) (lpC wbbe lpN)
theorem wbgd : wat prog (107, waxf) := wad mixed (ww (fdN)) wae (wbb waxf waxg wbmt noZ waxh waxi (fun x => waxe x.1.1 x.1.2.1) (fun r => ((r, ()), ())) func107 wbqy fun _ => by kernel_rfl)
theorem wasa : wat prog (78, wana) := wad mixed (ww (fdC wbgd fdN)) wae (wbb wana (wac [(107, waxf)]) wbmu noZ [] ((f78.body).getD .skip) (fun x => waxj x.1.1 x.1.2.1) (fun r => ((r, ()), ())) func78 (wbc (by kernel_rfl) lpN) fun _ => by kernel_rfl)
theorem wbqz : wat prog (79, D_zp) := wad mixed (ww (fdC wbgc fdN)) wae (wbb D_zp (wac [(77, D_zq)]) K_zp noZ [] ((f79.body).getD .skip) (fun x => T_zp x.1.1 x.1.2.1.1 x.1.2.1.2.1) (fun r => ((r, ()), ())) func79 (wbc (by kernel_rfl) lpN) fun _ => by kernel_rfl)
theorem wbra : wat prog (49, D_zo) := wad mixed (ww (fdC wbbc (fdC wbgc (fdC wasa (fdC wasa (fdC wbqz fdN)))))) wae (wbb D_zo (wac [(71, D_zu), (77, D_zq), (78, wana), (78, wana), (79, D_zp)]) K_zo noZ [] ((f49.body).getD .skip) (fun x => T_zo x.1.1.1 x.1.1.2.1) (fun r => ((r, ()), ())) func49 (wbc (by kernel_rfl) lpN) fun _ => by kernel_rfl)
theorem wbrb : wat prog (60, D_zx) := wad mixed (ww (fdC wbbc fdN)) wae (wbb D_zx (wac [(71, D_zu)]) K_zx noZ [] ((f60.body).getD .skip) (fun x => T_zx x.1.1) (fun r => ((r, ()), ())) func60 (wbc (by kernel_rfl) lpN) fun _ => by kernel_rfl)
theorem wbrc : wat prog (35, D_zw) := wad mixed (ww (fdC wbra (fdC wbrb fdN))) wae (wbb D_zw (wac [(49, D_zo), (60, D_zx)]) K_zw noZ [] ((f35.body).getD .skip) (fun x => T_zw x.1.1.1 x.1.1.2.1 x.1.2.1 x.1.2.2.1) (fun r => ((r, ()), ())) func35 (wbc (by kernel_rfl) lpN) fun _ => by kernel_rfl)
theorem wbrd : wat prog (110, D_zs) := wad mixed (ww (fdN)) wae (wbb D_zs (wac []) K_zs noZ [] ((f110.body).getD .skip) (fun x => T_zs x.1.1 x.1.2.1) (fun r => ((r, ()), ())) func110 (wbc (by kernel_rfl) lpN) fun _ => by kernel_rfl)
theorem wbge : (wage).OK E_zt tt noZ (wai O_zt) (wab C_zt 0) := wbx (fun _ => rfl) fun _ _ => by kernel_rfl
theorem o_zt : wz E_zt tt noZ O_zt C_zt := wbc (by kernel_rfl) (lpC wbge lpN)
theorem wbre : wat prog (90, D_zt) := wad mixed (ww (fdC wbrd fdN)) wae (wbb D_zt E_zt K_zt noZ O_zt C_zt (fun x => T_zt x.1.1) (fun r => (((), ()), (r, ()))) func90 o_zt fun _ => by kernel_rfl)
theorem wbgf : wat prog (138, waxk) := wad mixed (ww (fdN)) wae (wbb waxk (wac []) wbni noZ [] ((f138.body).getD .skip) (fun x => wanb x.1.1) (fun r => ((r, ()), ())) func138 (wbc (by kernel_rfl) lpN) fun _ => by kernel_rfl)
theorem wasb : wat prog (112, wane) := wad mixed (ww (fdC wbgf fdN)) wae (wbb wane (wac [(138, waxk)]) wbnj noZ [] ((f112.body).getD .skip) (fun x => wand x.1.1) (fun r => ((r, ()), ())) func112 (wbc (by kernel_rfl) lpN) fun _ => by kernel_rfl)
theorem wbbf : (wyt).OK wanh tt noZ (wai wani) (wab wanj 2) := wbx (fun _ => rfl) fun _ _ => by kernel_rfl
theorem wbbg : (wyu).OK wanh tt noZ (wai wani) (wab wanj 0) := wbx (fun _ => rfl) fun _ _ => by kernel_rfl
theorem wbrf : wz wanh tt noZ wani wanj := wbc (by kernel_rfl) (lpC wbbf (lpC wbbg lpN))
theorem wbgg : wat prog (129, waxl) := wad mixed (ww (fdN)) wae (wbb waxl wanh wbnk noZ wani wanj (fun x => wanf x.1.2.1 x.1.2.2.1 x.1.2.2.2.1 x.2.1) (fun r => ((), (r, ()))) func129 wbrf fun _ => by kernel_rfl)
theorem wbgh : wat prog (154, waxm) := wad mixed (ww (fdC wasb fdN)) wae (wbb waxm (wac [(112, wane)]) wbnl noZ [] ((f154.body).getD .skip) (fun x => wank x.1.1) (fun r => ((r, ()), ())) func154 (wbc (by kernel_rfl) lpN) fun _ => by kernel_rfl)
theorem wbgi : wat prog (155, waxn) := wad mixed (ww (fdN)) wae (wbb waxn (wac []) wbnm noZ [] ((f155.body).getD .skip) (fun x => wanm x.2.1.1) (fun r => ((r.1, ()), ((r.2, ()), ()))) func155 (wbc (by kernel_rfl) lpN) fun _ => by kernel_rfl)
theorem wbbh : (wyv).OK waxp tt noZ (wai waxq) (wab waxr 0) := wbx (fun _ => rfl) fun _ _ => by kernel_rfl
theorem wbrg : wz waxp tt noZ waxq waxr := wbc (by kernel_rfl) (lpC wbbh lpN)
theorem wbgj : wat prog (131, waxo) := wad mixed (ww (fdC wbgh (fdC wbgi fdN))) wae (wbb waxo waxp wbnn noZ waxq waxr (fun x => wano x.1.2.1 x.1.2.2.1 x.1.2.2.2.1 x.2.1) (fun r => ((), (r, ()))) func131 wbrg fun _ => by kernel_rfl)
theorem wbgk : wat prog (162, waxs) := wad mixed (ww (fdN)) wae (wbb waxs (wac []) wbno noZ [] ((f162.body).getD .skip) (fun x => wanq x.1.1 x.1.2.1 x.1.2.2.1 x.1.2.2.2.2.1 x.2.1.1) (fun r => ((r.1, (r.2.1, ())), ((r.2.2, ()), ()))) func162 (wbc (by kernel_rfl) lpN) fun _ => by kernel_rfl)
theorem wasc : wat prog (157, wans) := wad mixed (ww (fdC wbgk fdN)) wae (wbb wans (wac [(162, waxs)]) wbnp noZ [] ((f157.body).getD .skip) (fun x => wanr x.1.1 x.1.2.1 x.1.2.2.1 x.1.2.2.2.1 x.1.2.2.2.2.2.1 x.2.1.1) (fun r => ((r.1, ()), ((r.2, ()), ()))) func157 (wbc (by kernel_rfl) lpN) fun _ => by kernel_rfl)
theorem wbgl : wat prog (156, waxt) := wad mixed (ww (fdC wasc fdN)) wae (wbb waxt (wac [(157, wans)]) wbnq noZ [] ((f156.body).getD .skip) (fun x => wanu x.1.1 x.1.2.1 x.1.2.2.2.1 x.2.1.1) (fun r => ((r.1, ()), ((r.2, ()), ()))) func156 (wbc (by kernel_rfl) lpN) fun _ => by kernel_rfl)
theorem wbgm : wat prog (132, waxu) := wad mixed (ww (fdC wbgl (fdC wasc fdN))) wae (wbb waxu (wac [(156, waxt), (157, wans)]) wbnr noZ [] ((f132.body).getD .skip) (fun x => wanv x.1.1 x.1.2.1 x.1.2.2.1 x.1.2.2.2.1) (fun r => ((r.1, (r.2, ())), ())) func132 (wbc (by kernel_rfl) lpN) fun _ => by kernel_rfl)
theorem wbbi : (wyw).OK wvl tt noZ (wai wvm) (wab wvn 0) := wbx (fun _ => rfl) fun _ _ => by kernel_rfl
theorem wbbj : (wyx).OK wvl tt noZ (wai wvm) (wab wvn 2) := wbx (fun _ => rfl) fun _ _ => by kernel_rfl
theorem wbbk : (wyy).OK wvl tt noZ (wai wvm) (wab wvn 6) := wbx (fun _ => rfl) fun _ _ => by kernel_rfl
theorem wbbl : (wyz).OK wvl tt noZ (wai wvm) (wab wvn 8) := wbx (fun _ => rfl) fun _ _ => by kernel_rfl
theorem wbbm : (wza).OK wvl tt noZ (wai wvm) (wab wvn 4) := wbx (fun _ => rfl) fun _ _ => by kernel_rfl
theorem wbrh : wz wvl tt noZ wvm wvn := wbc (by kernel_rfl) (lpC wbbi (lpC wbbj (lpC wbbk (lpC wbbl (lpC wbbm lpN)))))
theorem wbgn : wat prog (136, waxv) := wad mixed (ww (fdN)) wae (wbb waxv wvl wbns noZ wvm wvn (fun x => wanw x.1.2.1 x.1.2.2.1 x.1.2.2.2.1 x.1.2.2.2.2.1 x.2.1) (fun r => ((r.1, (r.2.1, ())), (r.2.2, ()))) func136 wbrh fun _ => by kernel_rfl)
theorem wbbn (rec_ : (Int) → (Int) → (Int) → (Yd) → Y2 → Option Y2) : (wzb rec_).OK (waxx rec_) tt noZ (wai (waxy rec_)) (wab waxz 0) := wbx (fun _ => rfl) fun _ _ => by kernel_rfl
theorem wbri (rec_ : (Int) → (Int) → (Int) → (Yd) → Y2 → Option Y2) : wz (waxx rec_) tt noZ (waxy rec_) waxz := wbc (by kernel_rfl) (lpC (wbbn rec_) lpN)
theorem wasd : ∀ n : Nat, wat prog (111, waxw n)
 | 0 => fun _ _ h => nomatch h
 | n + 1 => wad mixed (ww (fdC wbgg (fdC wbgj (fdC wbgm (fdC wbgn (fdC (wasd n) fdN)))))) wae (wbb (waxw (n + 1)) (waxx (wpq n)) wbnt noZ (waxy (wpq n)) waxz (fun x => wanx (wpq n) x.1.2.1 x.1.2.2.1 x.1.2.2.2.1 x.1.2.2.2.2.1 x.2.1) (fun r => ((), (r, ()))) func111 (wbri (wpq n)) fun _ => by kernel_rfl)
theorem wase : wat prog (91, waoa) := wad mixed (ww (fdC wasb (fdC (wasd 1000000) fdN))) wae (wbb waoa (wac [(112, wane), (111, waxw 1000000)]) wbnu noZ [] ((f91.body).getD .skip) (fun x => wany x.1.2.1 x.2.1) (fun r => ((), (r, ()))) func91 (wbc (by kernel_rfl) lpN) fun _ => by kernel_rfl)
theorem wbrj : wat prog (95, D_zc) := wad mixed (ww (fdN)) wae (wbb D_zc (wac []) K_zc noZ [] ((f95.body).getD .skip) (fun x => T_zc x.1.1) (fun r => ((r, ()), ())) func95 (wbc (by kernel_rfl) lpN) fun _ => by kernel_rfl)
theorem wbbo : wat prog (66, D_za) := wad mixed (ww (fdC wbrj fdN)) wae (wbb D_za (wac [(95, D_zc)]) K_za noZ [] ((f66.body).getD .skip) (fun x => T_za x.1.1 x.1.2.1) (fun r => ((r, ()), ())) func66 (wbc (by kernel_rfl) lpN) fun _ => by kernel_rfl)
theorem wbbp : (wzc).OK wayc tt noZ (wai wayd) (wab waye 0) := wbx (fun _ => rfl) fun _ _ => by kernel_rfl
theorem wbrk : wz wayc tt noZ wayd waye := wbc (by kernel_rfl) (lpC wbbp lpN)
theorem wbgo : wat prog (113, wayb) := wad mixed (ww (fdC wbbo fdN)) wae (wbb wayb wayc wbnw noZ wayd waye (fun x => waoc x.1.1 x.1.2.1) (fun r => ((r, ()), ())) func113 wbrk fun _ => by kernel_rfl)
theorem wbgp : (wagh).OK E_zb tt noZ (wai O_zb) (wab C_zb 0) := wbx (fun _ => rfl) fun _ _ => by kernel_rfl
theorem o_zb : wz E_zb tt noZ O_zb C_zb := wbc (by kernel_rfl) (lpC wbgp lpN)
theorem wbgq : wat prog (65, D_zb) := wad mixed (ww (fdN)) wae (wbb D_zb E_zb K_zb noZ O_zb C_zb (fun x => T_zb x.1.1) (fun r => ((r, ()), ())) func65 o_zb fun _ => by kernel_rfl)
theorem wbrl : wat prog (92, D_zv) := wad mixed (ww (fdC wbbo (fdC wbgo (fdC wbgq fdN)))) wae (wbb D_zv (wac [(66, D_za), (113, wayb), (65, D_zb)]) K_zv noZ [] ((f92.body).getD .skip) (fun x => T_zv x.1.1 x.1.2.1) (fun r => ((r, ()), ())) func92 (wbc (by kernel_rfl) lpN) fun _ => by kernel_rfl)
theorem wbgr : (wagj).OK E_zy tt Z_zy (wai O_zy) (wab C_zy 0) := wbx (fun _ => rfl) fun _ _ => by kernel_rfl
theorem o_zy : wz E_zy tt Z_zy O_zy C_zy := wbc (by kernel_rfl) (lpC wbgr lpN)
theorem wbrm : wat prog (61, D_zy) := wad mixed (ww (fdC wbre (fdC wase (fdC wase (fdC wbrl fdN))))) wae (wbb D_zy E_zy K_zy Z_zy O_zy C_zy (fun x => T_zy x.1.1) (fun r => (((), ()), (r, ()))) func61 o_zy fun _ => by kernel_rfl)
theorem wbgs : (wagk).OK E_zj tt noZ (wai O_zj) (wab C_zj 0) := wbx (fun _ => rfl) fun _ _ => by kernel_rfl
theorem o_zj : wz E_zj tt noZ O_zj C_zj := wbc (by kernel_rfl) (lpC wbgs lpN)
theorem wbrn : wat prog (152, D_zj) := wad mixed (ww (fdN)) wae (wbb D_zj E_zj K_zj noZ O_zj C_zj (fun x => T_zj x.1.1.1 x.1.1.2.1 x.1.2.1 x.1.2.2.1) (fun r => ((r, ()), ())) func152 o_zj fun _ => by kernel_rfl)
theorem wbgt : (wagl).OK E_zi tt noZ (wai O_zi) (wab C_zi 0) := wbx (fun _ => rfl) fun _ _ => by kernel_rfl
theorem o_zi : wz E_zi tt noZ O_zi C_zi := wbc (by kernel_rfl) (lpC wbgt lpN)
theorem wbro : wat prog (128, D_zi) := wad mixed (ww (fdC wbrn fdN)) wae (wbb D_zi E_zi K_zi noZ O_zi C_zi (fun x => T_zi x.1.1.1 x.1.1.2.1 x.1.2.1) (fun r => (((), ()), (r, ()))) func128 o_zi fun _ => by kernel_rfl)
theorem wbgu : (wagm).OK E_zf tt noZ (wai O_zf) (wab C_zf 0) := wbx (fun _ => rfl) fun _ _ => by kernel_rfl
theorem o_zf : wz E_zf tt noZ O_zf C_zf := wbc (by kernel_rfl) (lpC wbgu lpN)
theorem wbgv : wat prog (108, D_zf) := wad mixed (ww (fdC wbro fdN)) wae (wbb D_zf E_zf K_zf noZ O_zf C_zf (fun x => T_zf x.1.1.1 x.1.1.2.1 x.1.2.1) (fun r => (((), ()), (r, ()))) func108 o_zf fun _ => by kernel_rfl)
theorem wbgw : (wagn).OK E_zz tt noZ (wai O_zz) (wab C_zz 0) := wbx (fun _ => rfl) fun _ _ => by kernel_rfl
theorem o_zz : wz E_zz tt noZ O_zz C_zz := wbc (by kernel_rfl) (lpC wbgw lpN)
theorem wbrp : wat prog (42, D_zz) := wad mixed (ww (fdN)) wae (wbb D_zz E_zz K_zz noZ O_zz C_zz (fun x => T_zz x.1.1) (fun r => ((r, ()), ())) func42 o_zz fun _ => by kernel_rfl)
theorem wbgx : wat prog (84, D_zk) := wad mixed (ww (fdC wbgv (fdC wbrp fdN))) wae (wbb D_zk (wac [(108, D_zf), (42, D_zz)]) K_zk noZ [] ((f84.body).getD .skip) (fun x => T_zk x.1.1.1 x.1.1.2.1 x.1.2.1) (fun r => ((r, ()), ())) func84 (wbc (by kernel_rfl) lpN) fun _ => by kernel_rfl)
theorem wbgy : (wago).OK E_zg tt noZ (wai O_zg) (wab C_zg 0) := wbx (fun _ => rfl) fun _ _ => by kernel_rfl
theorem o_zg : wz E_zg tt noZ O_zg C_zg := wbc (by kernel_rfl) (lpC wbgy lpN)
theorem wbgz : wat prog (83, D_zg) := wad mixed (ww (fdN)) wae (wbb D_zg E_zg K_zg noZ O_zg C_zg (fun x => T_zg x.1.1.1 x.1.1.2.1 x.1.2.1) (fun r => ((r, ()), ())) func83 o_zg fun _ => by kernel_rfl)
theorem wbrq : wat prog (54, D_zl) := wad mixed (ww (fdC wbgz (fdC wbgx fdN))) wae (wbb D_zl (wac [(83, D_zg), (84, D_zk)]) K_zl noZ [] ((f54.body).getD .skip) (fun x => T_zl x.1.1.1 x.1.1.2.1 x.1.2.1) (fun r => ((r, ()), ())) func54 (wbc (by kernel_rfl) lpN) fun _ => by kernel_rfl)
theorem wbbq : (wzf).OK wayi tt noZ (wai wayj) (wab wayk 0) := wbx (fun _ => rfl) fun _ _ => by kernel_rfl
theorem wbrr : wz wayi tt noZ wayj wayk := wbc (by kernel_rfl) (lpC wbbq lpN)
theorem wbha : wat prog (114, wayh) := wad mixed (ww (fdN)) wae (wbb wayh wayi wbpg noZ wayj wayk (fun x => wayg x.1.1) (fun r => ((r, ()), ())) func114 wbrr fun _ => by kernel_rfl)
theorem wbrs : wat prog (93, D_zh) := wad mixed (ww (fdC wbgv (fdC wbha fdN))) wae (wbb D_zh (wac [(108, D_zf), (114, wayh)]) K_zh noZ [] ((f93.body).getD .skip) (fun x => T_zh x.1.1.1 x.1.1.2.1 x.1.2.1) (fun r => ((r, ()), ())) func93 (wbc (by kernel_rfl) lpN) fun _ => by kernel_rfl)
theorem wbrt : wat prog (62, D_zm) := wad mixed (ww (fdC wbgx (fdC wbgz (fdC wbrq (fdC wbrs fdN))))) wae (wbb D_zm (wac [(84, D_zk), (83, D_zg), (54, D_zl), (93, D_zh)]) K_zm noZ [] ((f62.body).getD .skip) (fun x => T_zm x.1.1.1 x.1.1.2.1 x.1.2.1 x.1.2.2.1) (fun r => ((r, ()), ())) func62 (wbc (by kernel_rfl) lpN) fun _ => by kernel_rfl)
theorem wbbr : (wzg).OK waof tt noZ (wai waog) (wab waoh 2) := wbx (fun _ => rfl) fun _ _ => by kernel_rfl
theorem wbbs : (wzh).OK waof tt noZ (wai waog) (wab waoh 0) := wbx (fun _ => rfl) fun _ _ => by kernel_rfl
theorem wbru : wz waof tt noZ waog waoh := wbc (by kernel_rfl) (lpC wbbr (lpC wbbs lpN))
theorem wbhb : wat prog (115, waym) := wad mixed (ww (fdN)) wae (wbb waym waof wbpl noZ waog waoh (fun x => wayl x.1.2.1 x.1.2.2.1 x.1.2.2.2.1 x.2.1) (fun r => ((), (r, ()))) func115 wbru fun _ => by kernel_rfl)
theorem wbbt : (wzi).OK wayp tt noZ (wai wayq) (wab wayr 0) := wbx (fun _ => rfl) fun _ _ => by kernel_rfl
theorem wbrv : wz wayp tt noZ wayq wayr := wbc (by kernel_rfl) (lpC wbbt lpN)
theorem wbhc : wat prog (158, wayo) := wad mixed (ww (fdN)) wae (wbb wayo wayp wbpm noZ wayq wayr (fun x => wayn x.1.2.1 x.1.2.2.1 x.1.2.2.2.1 x.1.2.2.2.2.1 x.2.1) (fun r => ((), (r, ()))) func158 wbrv fun _ => by kernel_rfl)
theorem wbbu : (wzj).OK wayv tt noZ (wai wayw) (wab wayx 0) := wbx (fun _ => rfl) fun _ _ => by kernel_rfl
theorem wbrw : wz wayv tt noZ wayw wayx := wbc (by kernel_rfl) (lpC wbbu lpN)
theorem wbhd : wat prog (139, wayu) := wad mixed (ww (fdC wbhc fdN)) wae (wbb wayu wayv wbpn noZ wayw wayx (fun x => wayt x.1.2.1 x.1.2.2.1 x.1.2.2.2.1 x.1.2.2.2.2.1 x.2.1) (fun r => ((), (r, ()))) func139 wbrw fun _ => by kernel_rfl)
theorem wbbv (rec_ : (Int) → (Int) → (Int) → ((HL [(.pair (.pair yi yi) y1), (.pair (.pair yi yi) y1)] → Option (Int))) → Yc → Option Yc) : (wzk rec_).OK (wvv rec_) tt noZ (wai (wvw rec_)) (wab wvx 0) := wbx (fun _ => rfl) fun _ _ => by kernel_rfl
theorem wbbw (rec_ : (Int) → (Int) → (Int) → ((HL [(.pair (.pair yi yi) y1), (.pair (.pair yi yi) y1)] → Option (Int))) → Yc → Option Yc) : (wzl rec_).OK (wvv rec_) tt noZ (wai (wvw rec_)) (wab wvx 2) := wbx (fun _ => rfl) fun _ _ => by kernel_rfl
theorem wbbx (rec_ : (Int) → (Int) → (Int) → ((HL [(.pair (.pair yi yi) y1), (.pair (.pair yi yi) y1)] → Option (Int))) → Yc → Option Yc) : (wzm rec_).OK (wvv rec_) tt noZ (wai (wvw rec_)) (wab wvx 4) := wbx (fun _ => rfl) fun _ _ => by kernel_rfl
theorem wbby (rec_ : (Int) → (Int) → (Int) → ((HL [(.pair (.pair yi yi) y1), (.pair (.pair yi yi) y1)] → Option (Int))) → Yc → Option Yc) : (wzn rec_).OK (wvv rec_) tt noZ (wai (wvw rec_)) (wab wvx 6) := wbx (fun _ => rfl) fun _ _ => by kernel_rfl
theorem wbbz (rec_ : (Int) → (Int) → (Int) → ((HL [(.pair (.pair yi yi) y1), (.pair (.pair yi yi) y1)] → Option (Int))) → Yc → Option Yc) : (wzo rec_).OK (wvv rec_) tt noZ (wai (wvw rec_)) (wab wvx 8) := wbx (fun _ => rfl) fun _ _ => by kernel_rfl
theorem wbrx (rec_ : (Int) → (Int) → (Int) → ((HL [(.pair (.pair yi yi) y1), (.pair (.pair yi yi) y1)] → Option (Int))) → Yc → Option Yc) : wz (wvv rec_) tt noZ (wvw rec_) wvx := wbc (by kernel_rfl) (lpC (wbbv rec_) (lpC (wbbw rec_) (lpC (wbbx rec_) (lpC (wbby rec_) (lpC (wbbz rec_) lpN)))))
theorem wasf : ∀ n : Nat, wat prog (116, wayy n)
 | 0 => fun _ _ h => nomatch h
 | n + 1 => wad mixed (ww (fdC wbhd (fdC (wasf n) fdN))) wae (wbb (wayy (n + 1)) (wvv (wek n)) wbpo noZ (wvw (wek n)) wvx (fun x => wagp (wek n) x.1.2.1 x.1.2.2.1 x.1.2.2.2.1 x.1.2.2.2.2.1 x.2.1) (fun r => ((), (r, ()))) func116 (wbrx (wek n)) fun _ => by kernel_rfl)
theorem wbca : (wzp).OK wagq tt noZ (wai wagr) (wab wags 0) := wbx (fun _ => rfl) fun _ _ => by kernel_rfl
theorem wbcb : (wzq).OK wagq tt noZ (wai wagr) (wab wags 4) := wbx (fun _ => rfl) fun _ _ => by kernel_rfl
theorem wbcc : (wzr).OK wagq tt noZ (wai wagr) (wab wags 2) := wbx (fun _ => rfl) fun _ _ => by kernel_rfl
theorem wbry : wz wagq tt noZ wagr wags := wbc (by kernel_rfl) (lpC wbca (lpC wbcb (lpC wbcc lpN)))
theorem wbhe : wat prog (94, wazb) := wad mixed (ww (fdC wbhb (fdC (wasf 1000000) fdN))) wae (wbb wazb wagq wbpp noZ wagr wags (fun x => wayz x.1.2.1 x.1.2.2.1 x.2.1) (fun r => ((), (r, ()))) func94 wbry fun _ => by kernel_rfl)
theorem wasg : wat prog (63, waoj) := wad mixed (ww (fdC wbhe fdN)) wae (wbb waoj (wac [(94, wazb)]) wbpq noZ [] ((f63.body).getD .skip) (fun x => wazc x.1.2.1 x.2.1) (fun r => ((), (r, ()))) func63 (wbc (by kernel_rfl) lpN) fun _ => by kernel_rfl)
theorem wbrz : wat prog (64, D_ze) := wad mixed (ww (fdC wbbo (fdC wbgq fdN))) wae (wbb D_ze (wac [(66, D_za), (65, D_zb)]) K_ze noZ [] ((f64.body).getD .skip) (fun x => T_ze x.1.1.1 x.1.1.2.1 x.1.1.2.2.1 x.1.2.1.1 x.1.2.1.2.1 x.1.2.1.2.2.1) (fun r => ((r, ()), ())) func64 (wbc (by kernel_rfl) lpN) fun _ => by kernel_rfl)
theorem wbhf : (wagu).OK E_zd tt Z_zd (wai O_zd) (wab C_zd 0) := wbx (fun _ => rfl) fun _ _ => by kernel_rfl
theorem wbhg : (wagw).OK E_zd tt Z_zd (wai O_zd) (wab C_zd 2) := wbx (fun _ => rfl) fun _ _ => by kernel_rfl
theorem o_zd : wz E_zd tt Z_zd O_zd C_zd := wbc (by kernel_rfl) (lpC wbhf (lpC wbhg lpN))
theorem wbsa : wat prog (36, D_zd) := wad mixed (ww (fdC wbrm (fdC wbrt (fdC wasg (fdC wasg (fdC wbrz fdN)))))) wae (wbb D_zd E_zd K_zd Z_zd O_zd C_zd (fun x => T_zd x.1.1.1 x.1.1.2.1 x.1.2.1 x.1.2.2.1) (fun r => (((), ((), ())), (r.1, (r.2, ())))) func36 o_zd fun _ => by kernel_rfl)
theorem wbsb : wat prog (16, D_zn) := wad mixed (ww (fdC wbrc (fdC wbsa fdN))) wae (wbb D_zn (wac [(35, D_zw), (36, D_zd)]) K_zn noZ [] ((f16.body).getD .skip) (fun x => T_zn x.1.1.1 x.1.1.2.1 x.1.2.1 x.1.2.2.1) (fun r => (((), (r.1, ())), (r.2, ()))) func16 (wbc (by kernel_rfl) lpN) fun _ => by kernel_rfl)
theorem wbhh : wat prog (40, wbfg) := wafj
theorem wbcd : (wzs).OK wazf tt noZ (wai wazg) (wab wazh 0) := wbx (fun _ => rfl) fun _ _ => by kernel_rfl
theorem wbsc : wz wazf tt noZ wazg wazh := wbc (by kernel_rfl) (lpC wbcd lpN)
theorem wbhi : wat prog (17, waze) := wad mixed (ww (fdC wbhh fdN)) wae (wbb waze wazf wbpx noZ wazg wazh (fun x => wazd x.1.1 x.1.2.1) (fun r => ((r, ()), ())) func17 wbsc fun _ => by kernel_rfl)
theorem wbce : (wzt).OK wazj tt noZ (wai wazk) (wab wazl 0) := wbx (fun _ => rfl) fun _ _ => by kernel_rfl
theorem wbsd : wz wazj tt noZ wazk wazl := wbc (by kernel_rfl) (lpC wbce lpN)
theorem wash : wat prog (37, waok) := wad mixed (ww (fdN)) wae (wbb waok wazj wbpy noZ wazk wazl (fun x => wazi x.1.1 x.1.2.1) (fun r => ((r, ()), ())) func37 wbsd fun _ => by kernel_rfl)
theorem wbcf : (wzu).OK wazo tt noZ (wai wazp) (wab wazq 0) := wbx (fun _ => rfl) fun _ _ => by kernel_rfl
theorem wbse : wz wazo tt noZ wazp wazq := wbc (by kernel_rfl) (lpC wbcf lpN)
theorem wbhj : wat prog (10, wazn) := wad mixed (ww (fdC wash fdN)) wae (wbb wazn wazo wbpz noZ wazp wazq (fun x => wazm x.1.1 x.1.2.1) (fun r => ((r, ()), ())) func10 wbse fun _ => by kernel_rfl)
theorem wbhk : wat prog (11, wazs) := wad mixed (ww (fdC wash (fdC wbhj fdN))) wae (wbb wazs (wac [(37, waok), (10, wazn)]) wbqa noZ [] ((f11.body).getD .skip) (fun x => wazr x.1.1.1 x.1.1.2.1 x.1.2.1.1 x.1.2.1.2.1) (fun r => ((r, ()), ())) func11 (wbc (by kernel_rfl) lpN) fun _ => by kernel_rfl)
theorem wbcg : (wzv).OK wazu tt noZ (wai wazv) (wab wazw 0) := wbx (fun _ => rfl) fun _ _ => by kernel_rfl
theorem wbsf : wz wazu tt noZ wazv wazw := wbc (by kernel_rfl) (lpC wbcg lpN)
theorem wasi : wat prog (38, waon) := wad mixed (ww (fdN)) wae (wbb waon wazu wbqb noZ wazv wazw (fun x => wazt x.1.2.1 x.2.1) (fun r => ((r.1, ()), (r.2, ()))) func38 wbsf fun _ => by kernel_rfl)
theorem wbch : (wzw).OK wbaa tt wazz (wai wbab) (wab wbac 0) := wbx (fun _ => rfl) fun _ _ => by kernel_rfl
theorem wbsg : wz wbaa tt wazz wbab wbac := wbc (by kernel_rfl) (lpC wbch lpN)
theorem wbhl : wat prog (13, wazy) := wad mixed (ww (fdC wasi fdN)) wae (wbb wazy wbaa wbqc wazz wbab wbac (fun x => wazx x.1.2.1 x.2.1) (fun r => ((r.1, ()), (r.2, ()))) func13 wbsg fun _ => by kernel_rfl)
theorem wbhm : wat prog (12, wbae) := wad mixed (ww (fdC wasi (fdC wbhl fdN))) wae (wbb wbae (wac [(38, waon), (13, wazy)]) wbqd noZ [] ((f12.body).getD .skip) (fun x => wbad x.1.2.1 x.2.1 x.2.2.1) (fun r => ((r.1, ()), (r.2.1, (r.2.2, ())))) func12 (wbc (by kernel_rfl) lpN) fun _ => by kernel_rfl)
theorem wbci : (wzx).OK waor tt noZ (wai waos) (wab waot 2) := wbx (fun _ => rfl) fun _ _ => by kernel_rfl
theorem wbcj : (wzy).OK waor tt noZ (wai waos) (wab waot 0) := wbx (fun _ => rfl) fun _ _ => by kernel_rfl
theorem wbsh : wz waor tt noZ waos waot := wbc (by kernel_rfl) (lpC wbci (lpC wbcj lpN))
theorem wbhn : wat prog (18, wbag) := wad mixed (ww (fdN)) wae (wbb wbag waor wbqe noZ waos waot (fun x => wbaf x.1.2.1 x.2.1) (fun r => ((r.1, ()), (r.2, ()))) func18 wbsh fun _ => by kernel_rfl)
theorem wbck : (wzz).OK waou tt noZ (wai waov) (wab waow 2) := wbx (fun _ => rfl) fun _ _ => by kernel_rfl
theorem wbcl : (waaa).OK waou tt noZ (wai waov) (wab waow 0) := wbx (fun _ => rfl) fun _ _ => by kernel_rfl
theorem wbsi : wz waou tt noZ waov waow := wbc (by kernel_rfl) (lpC wbck (lpC wbcl lpN))
theorem wbho : wat prog (19, wbai) := wad mixed (ww (fdN)) wae (wbb wbai waou wbqf noZ waov waow (fun x => wbah x.1.2.1 x.2.1) (fun r => ((r.1, ()), (r.2, ()))) func19 wbsi fun _ => by kernel_rfl)
theorem wbhp : wat prog (4, wbal) := wad mixed (ww (fdC wbfi (fdC wbfk (fdC wbga (fdC wbsb (fdC wbhi (fdC wbhk (fdC wbhm (fdC wbhn (fdC wbho fdN)))))))))) wae (wbb wbal (wac [(6, wauc), (8, wauo), (15, wawx), (16, D_zn), (17, waze), (11, wazs), (12, wbae), (18, wbag), (19, wbai)]) wbqg wbqh [] ((f4.body).getD .skip) (fun x => wbaj x.1.1.1 x.1.1.2.1 x.1.2.1 x.1.2.2.1) (fun r => ((r, ()), ())) func4 (wbc (by kernel_rfl) lpN) fun _ => by kernel_rfl)
end Go.Proofs.Ytnagpmhaddfgmaa
