/-
 The evaluator hands back, for the code of each function that the claim reaches, what its typed function says. No conditions.
-/
import Derived.Test.YtnagpmhaddfgmaaGreatC1
namespace Go.Proofs.YtnagpmhaddfgmaaGreat
open Go.Proofs.Tryz
open List (length getD set)
open Int (toNat)
open IntKind (wrap)
theorem mixed : prog.follows .mixedOrders = true := by kernel_rfl
theorem wad : wao prog tt := wbra (by kernel_rfl)
theorem wbrm : wat prog (57, wbdu) := wae mixed (ww (fdN)) wad (waz wbdu (wac []) wbxz noZ [] ((f57.body).getD .skip) (fun x => waul x.1.1) (fun r => ((r, ()), ())) func57 (wax (by kernel_rfl) lpN) fun _ => by kernel_rfl)
theorem wbrn : wat prog (202, wbdw) := wae mixed (ww (fdN)) wad (waz wbdw (wac []) wbya noZ [] ((f202.body).getD .skip) (fun x => wbdv x.2.1.1 x.2.1.2.1 x.2.1.2.2.1) (fun r => ((r.1, ()), ((r.2.1, (r.2.2.1, (r.2.2.2, ()))), ()))) func202 (wax (by kernel_rfl) lpN) fun _ => by kernel_rfl)
theorem wpd : wat prog (120, wsb) := wae mixed (ww (fdC wbrn fdN)) wad (waz wsb (wac [(202, wbdw)]) wbyb noZ [] ((f120.body).getD .skip) (fun x => wbdx x.1.2.1 x.2.1.1 x.2.1.2.1 x.2.1.2.2.1) (fun r => ((r.1, ()), ((r.2.1, (r.2.2.1, (r.2.2.2, ()))), ()))) func120 (wax (by kernel_rfl) lpN) fun _ => by kernel_rfl)
theorem waph : wat prog (83, wale) := wae mixed (ww (fdC wpd fdN)) wad (waz wale (wac [(120, wsb)]) wbyc noZ [] ((f83.body).getD .skip) (fun x => wbdy x.1.2.1 x.2.1.1 x.2.1.2.1 x.2.1.2.2.1) (fun r => ((r.1, ()), ((r.2.1, (r.2.2.1, (r.2.2.2, ()))), ()))) func83 (wax (by kernel_rfl) lpN) fun _ => by kernel_rfl)
theorem wbme : (waci).OK walm tt walj (waf waln) (waa walo 0) := wbn (fun _ => rfl) fun _ _ => by kernel_rfl
theorem wbmf : (wacj).OK walm tt walj (waf waln) (waa walo 4) := wbn (fun _ => rfl) fun _ _ => by kernel_rfl
theorem wbmg : (wack).OK walm tt walj (waf waln) (waa walo 2) := wbn (fun _ => rfl) fun _ _ => by kernel_rfl
theorem wcdw : wab walm tt walj waln walo := wax (by kernel_rfl) (lpC wbme (lpC wbmf (lpC wbmg lpN)))
theorem wapi : wat prog (176, wali) := wae mixed (ww (fdC waph (fdC wpd fdN))) wad (waz wali walm wbyd walj waln walo (fun x => wbdz x.1.2.1 x.2.1.1 x.2.1.2.1 x.2.1.2.2.1) (fun r => ((((), ((), ())), ()), (r.1, (r.2.1, ((r.2.2.1, (r.2.2.2.1, (r.2.2.2.2, ()))), ()))))) func176 wcdw fun _ => by kernel_rfl)
theorem wwj : wat prog (173, wyx) := wae mixed (ww (fdN)) wad (waz wyx (wac []) wbye noZ [] ((f173.body).getD .skip) (fun x => waun x.1.1) (fun r => (((), ()), (r, ()))) func173 (wax (by kernel_rfl) lpN) fun _ => by kernel_rfl)
theorem wbmh : (wacl).OK wbed tt wbec (waf wbee) (waa wbef 1) := wbn (fun _ => rfl) fun _ _ => by kernel_rfl
theorem wcdx : wab wbed tt wbec wbee wbef := wax (by kernel_rfl) (lpC wbmh lpN)
theorem wbro : wat prog (175, wbeb) := wae mixed (ww (fdC wpd (fdC waph (fdC wwj fdN)))) wad (waz wbeb wbed wbyf wbec wbee wbef (fun x => wbea x.2.1.1 x.2.1.2.1 x.2.1.2.2.1 x.2.2.1 x.2.2.2.1) (fun r => ((((), ((), ())), ()), (r.1, (r.2.1, ((r.2.2.1, (r.2.2.2.1, (r.2.2.2.2, ()))), ()))))) func175 wcdx fun _ => by kernel_rfl)
theorem wbrp : wat prog (197, wbeh) := wae mixed (ww (fdN)) wad (waz wbeh (wac []) wbyg noZ [] ((f197.body).getD .skip) (fun x => wbeg x.1.1 x.1.2.1) (fun r => ((r, ()), ())) func197 (wax (by kernel_rfl) lpN) fun _ => by kernel_rfl)
theorem wbmi : (wacm).OK walu tt noZ (waf walv) (waa walw 0) := wbn (fun _ => rfl) fun _ _ => by kernel_rfl
theorem wbmj : (wacn).OK walu tt noZ (waf walv) (waa walw 4) := wbn (fun _ => rfl) fun _ _ => by kernel_rfl
theorem wbmk : (waco).OK walu tt noZ (waf walv) (waa walw 2) := wbn (fun _ => rfl) fun _ _ => by kernel_rfl
theorem wcdy : wab walu tt noZ walv walw := wax (by kernel_rfl) (lpC wbmi (lpC wbmj (lpC wbmk lpN)))
theorem wbbg : wat prog (177, waup) := wae mixed (ww (fdC wapi (fdC wpd (fdC wbrp fdN)))) wad (waz waup walu wbyh noZ walv walw (fun x => wbei x.1.2.1 x.2.1.1 x.2.1.2.1 x.2.1.2.2.1) (fun r => ((((), ((), ())), ()), (r.1, (r.2.1, ((r.2.2.1, (r.2.2.2.1, (r.2.2.2.2, ()))), ()))))) func177 wcdy fun _ => by kernel_rfl)
theorem wbml : (wacp).OK wbel tt noZ (waf wbem) (waa wben 0) := wbn (fun _ => rfl) fun _ _ => by kernel_rfl
theorem wcdz : wab wbel tt noZ wbem wben := wax (by kernel_rfl) (lpC wbml lpN)
theorem wbrq : wat prog (228, wbek) := wae mixed (ww (fdC wwj fdN)) wad (waz wbek wbel wbyi noZ wbem wben (fun x => wbej x.1.1.1 x.1.1.2.1) (fun r => ((((), ((), ())), ()), (r.1, (r.2, ())))) func228 wcdz fun _ => by kernel_rfl)
theorem wbmm : (wacq).OK wahd tt noZ (waf wahe) (waa wahf 6) := wbn (fun _ => rfl) fun _ _ => by kernel_rfl
theorem wbmn : (wacr).OK wahd tt noZ (waf wahe) (waa wahf 4) := wbn (fun _ => rfl) fun _ _ => by kernel_rfl
theorem wbmo : (wacs).OK wahd tt noZ (waf wahe) (waa wahf 2) := wbn (fun _ => rfl) fun _ _ => by kernel_rfl
theorem wbmp : (wact).OK wahd tt noZ (waf wahe) (waa wahf 0) := wbn (fun _ => rfl) fun _ _ => by kernel_rfl
theorem wcea : wab wahd tt noZ wahe wahf := wax (by kernel_rfl) (lpC wbmm (lpC wbmn (lpC wbmo (lpC wbmp lpN))))
theorem wbrr : wat prog (229, wbep) := wae mixed (ww (fdN)) wad (waz wbep wahd wbyj noZ wahe wahf (fun x => wbeo x.1.1.1 x.1.1.2.1) (fun r => ((r, ()), ())) func229 wcea fun _ => by kernel_rfl)
theorem wbbh : wat prog (194, waus) := wae mixed (ww (fdN)) wad (waz waus (wac []) wbyk noZ [] ((f194.body).getD .skip) (fun x => wbeq x.1.1 x.1.2.1) (fun r => ((r, ()), ())) func194 (wax (by kernel_rfl) lpN) fun _ => by kernel_rfl)
theorem wbmq : (wacu).OK wyy tt noZ (waf wyz) (waa wza 8) := wbn (fun _ => rfl) fun _ _ => by kernel_rfl
theorem wbmr : (wacv).OK wyy tt noZ (waf wyz) (waa wza 6) := wbn (fun _ => rfl) fun _ _ => by kernel_rfl
theorem wbms : (wacw).OK wyy tt noZ (waf wyz) (waa wza 4) := wbn (fun _ => rfl) fun _ _ => by kernel_rfl
theorem wbmt : (wacx).OK wyy tt noZ (waf wyz) (waa wza 2) := wbn (fun _ => rfl) fun _ _ => by kernel_rfl
theorem wbmu : (wacy).OK wyy tt noZ (waf wyz) (waa wza 0) := wbn (fun _ => rfl) fun _ _ => by kernel_rfl
theorem wceb : wab wyy tt noZ wyz wza := wax (by kernel_rfl) (lpC wbmq (lpC wbmr (lpC wbms (lpC wbmt (lpC wbmu lpN)))))
theorem wbbi : wat prog (178, waut) := wae mixed (ww (fdC wbrq (fdC wbrr (fdC wbbh fdN)))) wad (waz waut wyy wbyl noZ wyz wza (fun x => wber x.1.1.1 x.1.1.2.1) (fun r => ((((), ((), ())), ()), (r.1, (r.2, ())))) func178 wceb fun _ => by kernel_rfl)
theorem wbrs : wat prog (82, wbet) := wae mixed (ww (fdC wpd (fdC wapi (fdC wbro (fdC wbbg (fdC wbbi fdN)))))) wad (waz wbet (wac [(120, wsb), (176, wali), (175, wbeb), (177, waup), (178, waut)]) wbym noZ [] ((f82.body).getD .skip) (fun x => wbes x.1.2.1 x.2.1.1 x.2.1.2.1 x.2.1.2.2.1) (fun r => ((((), ((), ())), ()), (r.1, (r.2.1, ((r.2.2.1, (r.2.2.2.1, (r.2.2.2.2, ()))), ()))))) func82 (wax (by kernel_rfl) lpN) fun _ => by kernel_rfl)
theorem wbbj : wat prog (89, wauv) := wae mixed (ww (fdC wbrs fdN)) wad (waz wauv (wac [(82, wbet)]) wbyn noZ [] ((f89.body).getD .skip) (fun x => wbeu x.2.1.1 x.2.1.2.1 x.2.1.2.2.1) (fun r => ((((), ((), ())), ()), (r.1, (r.2.1, ((r.2.2.1, (r.2.2.2.1, (r.2.2.2.2, ()))), ()))))) func89 (wax (by kernel_rfl) lpN) fun _ => by kernel_rfl)
theorem wbrt : wat prog (161, wbew) := wae mixed (ww (fdC wbbj fdN)) wad (waz wbew (wac [(89, wauv)]) wbyo noZ [] ((f161.body).getD .skip) (fun x => wbev x.1.1) (fun r => ((((), ((), ())), ()), (r.1, (r.2, ())))) func161 (wax (by kernel_rfl) lpN) fun _ => by kernel_rfl)
theorem wbru : wat prog (70, wbey) := wae mixed (ww (fdC wbrt fdN)) wad (waz wbey (wac [(161, wbew)]) wbyp noZ [] ((f70.body).getD .skip) (fun x => wbex x.1.1) (fun r => ((((), ((), ())), ()), (r.1, (r.2, ())))) func70 (wax (by kernel_rfl) lpN) fun _ => by kernel_rfl)
theorem wapj : wat prog (104, wamj) := wae mixed (ww (fdN)) wad (waz wamj (wac []) wbyq noZ [] ((f104.body).getD .skip) (fun x => wbez x.1.1 x.1.2.1 x.1.2.2.1) (fun r => ((r, ()), ())) func104 (wax (by kernel_rfl) lpN) fun _ => by kernel_rfl)
theorem wbmv : (wacz).OK wbfb tt noZ (waf wbfc) (waa wbfd 0) := wbn (fun _ => rfl) fun _ _ => by kernel_rfl
theorem wcec : wab wbfb tt noZ wbfc wbfd := wax (by kernel_rfl) (lpC wbmv lpN)
theorem wbbk : wat prog (206, wauy) := wae mixed (ww (fdN)) wad (waz wauy wbfb wbyr noZ wbfc wbfd (fun x => wbfa x.1.1 x.1.2.1) (fun r => ((r, ()), ())) func206 wcec fun _ => by kernel_rfl)
theorem wbbl : wat prog (126, wava) := wae mixed (ww (fdC wbbk fdN)) wad (waz wava (wac [(206, wauy)]) wbys noZ [] ((f126.body).getD .skip) (fun x => wbfe x.1.1 x.1.2.1) (fun r => ((r, ()), ())) func126 (wax (by kernel_rfl) lpN) fun _ => by kernel_rfl)
theorem wbrv : wat prog (201, wbfh) := wae mixed (ww (fdC wapj fdN)) wad (waz wbfh (wac [(104, wamj)]) wbyt noZ [] ((f201.body).getD .skip) (fun x => wbff x.1.1 x.1.2.1.1 x.1.2.2.1.1) (fun r => ((r, ()), ())) func201 (wax (by kernel_rfl) lpN) fun _ => by kernel_rfl)
theorem wbbm : wat prog (116, wavb) := wae mixed (ww (fdC wbbl (fdC wbbl (fdC wbrv fdN)))) wad (waz wavb (wac [(126, wava), (126, wava), (201, wbfh)]) wbyu noZ [] ((f116.body).getD .skip) (fun x => wbfi x.1.1 x.1.2.1 x.1.2.2.1) (fun r => ((r, ()), ())) func116 (wax (by kernel_rfl) lpN) fun _ => by kernel_rfl)
theorem wbmw : (wada).OK wbfl tt noZ (waf wbfm) (waa wbfn 0) := wbn (fun _ => rfl) fun _ _ => by kernel_rfl
theorem wced : wab wbfl tt noZ wbfm wbfn := wax (by kernel_rfl) (lpC wbmw lpN)
theorem wbrw : wat prog (131, wbfk) := wae mixed (ww (fdN)) wad (waz wbfk wbfl wbyv noZ wbfm wbfn (fun x => wbfj x.1.1 x.1.2.1) (fun r => ((r, ()), ())) func131 wced fun _ => by kernel_rfl)
theorem wbbn : wat prog (218, wave) := wae mixed (ww (fdC wbrw fdN)) wad (waz wave (wac [(131, wbfk)]) wbyw noZ [] ((f218.body).getD .skip) (fun x => wbfo x.1.1 x.1.2.1) (fun r => ((r, ()), ())) func218 (wax (by kernel_rfl) lpN) fun _ => by kernel_rfl)
theorem wcee : wat prog (219, D_zv) := wae mixed (ww (fdC wbbm fdN)) wad (waz D_zv (wac [(116, wavb)]) K_zv noZ [] ((f219.body).getD .skip) (fun x => T_zv x.1.1 x.1.2.1.1 x.1.2.1.2.1) (fun r => ((r, ()), ())) func219 (wax (by kernel_rfl) lpN) fun _ => by kernel_rfl)
theorem wayj : wat prog (157, D_zu) := wae mixed (ww (fdC wapj (fdC wbbm (fdC wbbn (fdC wbbn (fdC wcee fdN)))))) wad (waz D_zu (wac [(104, wamj), (116, wavb), (218, wave), (218, wave), (219, D_zv)]) K_zu noZ [] ((f157.body).getD .skip) (fun x => T_zu x.1.1.1 x.1.1.2.1) (fun r => ((r, ()), ())) func157 (wax (by kernel_rfl) lpN) fun _ => by kernel_rfl)
theorem wbmx : (wadb).OK wbfs tt noZ (waf wbft) (waa wbfu 0) := wbn (fun _ => rfl) fun _ _ => by kernel_rfl
theorem wcef : wab wbfs tt noZ wbft wbfu := wax (by kernel_rfl) (lpC wbmx lpN)
theorem wbrx : wat prog (221, wbfr) := wae mixed (ww (fdN)) wad (waz wbfr wbfs wbza noZ wbft wbfu (fun x => wbfq x.1.1) (fun r => ((r, ()), ())) func221 wcef fun _ => by kernel_rfl)
theorem wbmy : (wadc).OK wbfv tt noZ (waf wbfw) (waa wbfx 0) := wbn (fun _ => rfl) fun _ _ => by kernel_rfl
theorem wceg : wab wbfv tt noZ wbfw wbfx := wax (by kernel_rfl) (lpC wbmy lpN)
theorem wbbo : wat prog (199, wavh) := wae mixed (ww (fdN)) wad (waz wavh wbfv wbzb noZ wbfw wbfx (fun x => wavg x.1.1 x.1.2.1) (fun r => ((r, ()), ())) func199 wceg fun _ => by kernel_rfl)
theorem wceh : wat prog (162, D_zh) := wae mixed (ww (fdC wbrx (fdC wbbo fdN))) wad (waz D_zh (wac [(221, wbfr), (199, wavh)]) K_zh noZ [] ((f162.body).getD .skip) (fun x => T_zh x.1.1.1 x.1.1.2.1) (fun r => ((r, ()), ())) func162 (wax (by kernel_rfl) lpN) fun _ => by kernel_rfl)
theorem wapk : wat prog (143, wamq) := wae mixed (ww (fdN)) wad (waz wamq (wac []) wbze noZ [] ((f143.body).getD .skip) (fun x => wavi x.1.1 x.1.2.1) (fun r => ((r, ()), ())) func143 (wax (by kernel_rfl) lpN) fun _ => by kernel_rfl)
theorem wbbp : wat prog (146, wbfy) := wahb
theorem wbmz : (wadd).OK wavj tt noZ (waf wavk) (waa wavl 2) := wbn (fun _ => rfl) fun _ _ => by kernel_rfl
theorem wbna : (wade).OK wavj tt noZ (waf wavk) (waa wavl 0) := wbn (fun _ => rfl) fun _ _ => by kernel_rfl
theorem wcei : wab wavj tt noZ wavk wavl := wax (by kernel_rfl) (lpC wbmz (lpC wbna lpN))
theorem wbry : wat prog (266, wbga) := wae mixed (ww (fdN)) wad (waz wbga wavj wbzf noZ wavk wavl (fun x => wbfz x.1.2.1 x.1.2.2.1 x.1.2.2.2.1 x.2.1) (fun r => ((), (r, ()))) func266 wcei fun _ => by kernel_rfl)
theorem wbnb : (wadf).OK wamu tt noZ (waf wamv) (waa wamw 0) := wbn (fun _ => rfl) fun _ _ => by kernel_rfl
theorem wbnc : (wadg).OK wamu tt noZ (waf wamv) (waa wamw 4) := wbn (fun _ => rfl) fun _ _ => by kernel_rfl
theorem wbnd : (wadh).OK wamu tt noZ (waf wamv) (waa wamw 2) := wbn (fun _ => rfl) fun _ _ => by kernel_rfl
theorem wcej : wab wamu tt noZ wamv wamw := wax (by kernel_rfl) (lpC wbnb (lpC wbnc (lpC wbnd lpN)))
theorem wbrz : wat prog (248, wbge) := wae mixed (ww (fdC wbry fdN)) wad (waz wbge wamu wbzg noZ wamv wamw (fun x => wbgc x.1.2.1 x.1.2.2.1 x.2.1) (fun r => ((), (r, ()))) func248 wcej fun _ => by kernel_rfl)
theorem wbbq : wat prog (222, wavn) := wae mixed (ww (fdC wbrz fdN)) wad (waz wavn (wac [(248, wbge)]) wbzh noZ [] ((f222.body).getD .skip) (fun x => wbgf x.1.2.1 x.2.1) (fun r => ((), (r, ()))) func222 (wax (by kernel_rfl) lpN) fun _ => by kernel_rfl)
theorem wcek : wat prog (231, D_zc) := wae mixed (ww (fdN)) wad (waz D_zc (wac []) K_zc noZ [] ((f231.body).getD .skip) (fun x => T_zc x.1.1) (fun r => ((r, ()), ())) func231 (wax (by kernel_rfl) lpN) fun _ => by kernel_rfl)
theorem wbne : wat prog (182, D_za) := wae mixed (ww (fdC wcek fdN)) wad (waz D_za (wac [(231, D_zc)]) K_za noZ [] ((f182.body).getD .skip) (fun x => T_za x.1.1 x.1.2.1) (fun r => ((r, ()), ())) func182 (wax (by kernel_rfl) lpN) fun _ => by kernel_rfl)
theorem wcel : wat prog (223, D_zm) := wae mixed (ww (fdC wbne fdN)) wad (waz D_zm (wac [(182, D_za)]) K_zm noZ [] ((f223.body).getD .skip) (fun x => T_zm x.1.1 x.1.2.1 x.1.2.2.1.1 x.1.2.2.1.2.1 x.1.2.2.2.1.1) (fun r => ((r, ()), ())) func223 (wax (by kernel_rfl) lpN) fun _ => by kernel_rfl)
theorem wcem : wat prog (163, D_zl) := wae mixed (ww (fdC wbbp (fdC wbbq (fdC wbbq (fdC wcel fdN))))) wad (waz D_zl (wac [(146, wbfy), (222, wavn), (222, wavn), (223, D_zm)]) K_zl noZ [] ((f163.body).getD .skip) (fun x => T_zl x.1.1.1 x.1.1.2.1 x.1.2.1 x.1.2.2.1) (fun r => (((), ()), (r, ()))) func163 (wax (by kernel_rfl) lpN) fun _ => by kernel_rfl)
theorem wbnf : (wadi).OK wbgi tt noZ (waf wbgj) (waa wbgk 0) := wbn (fun _ => rfl) fun _ _ => by kernel_rfl
theorem wcen : wab wbgi tt noZ wbgj wbgk := wax (by kernel_rfl) (lpC wbnf lpN)
theorem wbbr : wat prog (164, wavp) := wae mixed (ww (fdC wbbk fdN)) wad (waz wavp wbgi wbzn noZ wbgj wbgk (fun x => wbgh x.1.2.1 x.2.1) (fun r => (((), ()), (r, ()))) func164 wcen fun _ => by kernel_rfl)
theorem wbsa : wat prog (111, wbgm) := wae mixed (ww (fdC wbbo fdN)) wad (waz wbgm (wac [(199, wavh)]) wbzo noZ [] ((f111.body).getD .skip) (fun x => wbgl x.1.1 x.1.2.1) (fun r => ((r, ()), ())) func111 (wax (by kernel_rfl) lpN) fun _ => by kernel_rfl)
theorem wceo : wat prog (165, D_zt) := wae mixed (ww (fdC wbsa fdN)) wad (waz D_zt (wac [(111, wbgm)]) K_zt noZ [] ((f165.body).getD .skip) (fun x => T_zt x.1.1 x.1.2.1.1) (fun r => ((r, ()), ())) func165 (wax (by kernel_rfl) lpN) fun _ => by kernel_rfl)
theorem wbng : (wadj).OK wbgn tt noZ (waf wbgo) (waa wbgp 0) := wbn (fun _ => rfl) fun _ _ => by kernel_rfl
theorem wcep : wab wbgn tt noZ wbgo wbgp := wax (by kernel_rfl) (lpC wbng lpN)
theorem wafa : wat prog (144, wahi) := wae mixed (ww (fdC wapk fdN)) wad (waz wahi wbgn wbzr noZ wbgo wbgp (fun x => wavr x.1.1) (fun r => (((), ()), (r, ()))) func144 wcep fun _ => by kernel_rfl)
theorem wbsb : (wamy).OK E_zs tt Z_zs (waf O_zs) (waa C_zs 0) := wbn (fun _ => rfl) fun _ _ => by kernel_rfl
theorem wbsc : (wamz).OK E_zs tt Z_zs (waf O_zs) (waa C_zs 6) := wbn (fun _ => rfl) fun _ _ => by kernel_rfl
theorem wbsd : (wana).OK E_zs tt Z_zs (waf O_zs) (waa C_zs 4) := wbn (fun _ => rfl) fun _ _ => by kernel_rfl
theorem wbse : (wanb).OK E_zs tt Z_zs (waf O_zs) (waa C_zs 2) := wbn (fun _ => rfl) fun _ _ => by kernel_rfl
theorem o_zs : wab E_zs tt Z_zs O_zs C_zs := wax (by kernel_rfl) (lpC wbsb (lpC wbsc (lpC wbsd (lpC wbse lpN))))
theorem wceq : wat prog (71, D_zs) := wae mixed (ww (fdC wayj (fdC wceh (fdC wapk (fdC wcem (fdC wbbr (fdC wafa (fdC wbbr (fdC wceo fdN))))))))) wad (waz D_zs E_zs K_zs Z_zs O_zs C_zs (fun x => T_zs x.1.1.1 x.1.1.2.1) (fun r => (((), (r.1, ())), (r.2, ()))) func71 o_zs fun _ => by kernel_rfl)
theorem wapl : wat prog (130, wanc) := wae mixed (ww (fdN)) wad (waz wanc (wac []) wbzu noZ [] ((f130.body).getD .skip) (fun x => wbgq x.1.1 x.1.2.1 x.1.2.2.1) (fun r => ((r, ()), ())) func130 (wax (by kernel_rfl) lpN) fun _ => by kernel_rfl)
theorem wbnh : (wadm).OK wbgt tt noZ (waf wbgu) (waa wbgv 0) := wbn (fun _ => rfl) fun _ _ => by kernel_rfl
theorem wcer : wab wbgt tt noZ wbgu wbgv := wax (by kernel_rfl) (lpC wbnh lpN)
theorem wbsf : wat prog (200, wbgs) := wae mixed (ww (fdC wapl fdN)) wad (waz wbgs wbgt wbzv noZ wbgu wbgv (fun x => wbgr x.1.1 x.1.2.1 x.1.2.2.1) (fun r => ((r, ()), ())) func200 wcer fun _ => by kernel_rfl)
theorem wbni : (wadn).OK wbgx tt noZ (waf wbgy) (waa wbgz 0) := wbn (fun _ => rfl) fun _ _ => by kernel_rfl
theorem wces : wab wbgx tt noZ wbgy wbgz := wax (by kernel_rfl) (lpC wbni lpN)
theorem wbbs : wat prog (166, wavs) := wae mixed (ww (fdC wbsf (fdC wapl fdN))) wad (waz wavs wbgx wbzw noZ wbgy wbgz (fun x => wbgw x.1.1.1 x.1.1.2.1) (fun r => ((r, ()), ())) func166 wces fun _ => by kernel_rfl)
theorem wbnj : (wado).OK wbhc tt noZ (waf wbhd) (waa wbhe 0) := wbn (fun _ => rfl) fun _ _ => by kernel_rfl
theorem wcet : wab wbhc tt noZ wbhd wbhe := wax (by kernel_rfl) (lpC wbnj lpN)
theorem wbsg : wat prog (167, wbhb) := wae mixed (ww (fdN)) wad (waz wbhb wbhc wbzx noZ wbhd wbhe (fun x => wbha x.1.1.1 x.1.1.2.1) (fun r => ((r, ()), ())) func167 wcet fun _ => by kernel_rfl)
theorem wbnk : (wadp).OK wbhg tt noZ (waf wbhh) (waa wbhi 0) := wbn (fun _ => rfl) fun _ _ => by kernel_rfl
theorem wceu : wab wbhg tt noZ wbhh wbhi := wax (by kernel_rfl) (lpC wbnk lpN)
theorem wapm : wat prog (112, wanj) := wae mixed (ww (fdN)) wad (waz wanj wbhg wbzy noZ wbhh wbhi (fun x => wbhf x.1.1 x.1.2.1) (fun r => ((r, ()), ())) func112 wceu fun _ => by kernel_rfl)
theorem wbnl : (wadq).OK wavv tt wavu (waf wavw) (waa wavx 2) := wbn (fun _ => rfl) fun _ _ => by kernel_rfl
theorem wbnm : (wadr).OK wavv tt wavu (waf wavw) (waa wavx 0) := wbn (fun _ => rfl) fun _ _ => by kernel_rfl
theorem wcev : wab wavv tt wavu wavw wavx := wax (by kernel_rfl) (lpC wbnl (lpC wbnm lpN))
theorem wbsh : wat prog (224, wbhk) := wae mixed (ww (fdC wwj fdN)) wad (waz wbhk wavv wbzz wavu wavw wavx (fun x => wbhj x.1.1.1 x.1.1.2.1 x.1.2.1 x.1.2.2.1) (fun r => ((r, ()), ())) func224 wcev fun _ => by kernel_rfl)
theorem wbnn : (wads).OK wavz tt noZ (waf wawa) (waa wawb 2) := wbn (fun _ => rfl) fun _ _ => by kernel_rfl
theorem wbno : (wadt).OK wavz tt noZ (waf wawa) (waa wawb 0) := wbn (fun _ => rfl) fun _ _ => by kernel_rfl
theorem wcew : wab wavz tt noZ wawa wawb := wax (by kernel_rfl) (lpC wbnn (lpC wbno lpN))
theorem wbsi : wat prog (168, wbhm) := wae mixed (ww (fdC wapm (fdC wbsh (fdC wwj fdN)))) wad (waz wbhm wavz wcaa noZ wawa wawb (fun x => wbhl x.1.1.1 x.1.1.2.1 x.1.2.1 x.1.2.2.1) (fun r => (((r.1, (r.2.1, (r.2.2, ()))), ()), ())) func168 wcew fun _ => by kernel_rfl)
theorem wbnp : (wadu).OK wbhp tt wbho (waf wbhq) (waa wbhr 0) := wbn (fun _ => rfl) fun _ _ => by kernel_rfl
theorem wcex : wab wbhp tt wbho wbhq wbhr := wax (by kernel_rfl) (lpC wbnp lpN)
theorem wbbt : wat prog (169, wawc) := wae mixed (ww (fdN)) wad (waz wawc wbhp wcab wbho wbhq wbhr (fun x => wbhn x.1.1 x.1.2.1) (fun r => (((), ()), (r, ()))) func169 wcex fun _ => by kernel_rfl)
theorem wbnq : (wadv).OK wanp tt wano (waf wanq) (waa wanr 0) := wbn (fun _ => rfl) fun _ _ => by kernel_rfl
theorem wbnr : (wadw).OK wanp tt wano (waf wanq) (waa wanr 4) := wbn (fun _ => rfl) fun _ _ => by kernel_rfl
theorem wbns : (wadx).OK wanp tt wano (waf wanq) (waa wanr 2) := wbn (fun _ => rfl) fun _ _ => by kernel_rfl
theorem wcey : wab wanp tt wano wanq wanr := wax (by kernel_rfl) (lpC wbnq (lpC wbnr (lpC wbns lpN)))
theorem wbsj : wat prog (72, wbht) := wae mixed (ww (fdC wbbs (fdC wbsg (fdC wbsi (fdC wapm (fdC wbbt fdN)))))) wad (waz wbht wanp wcac wano wanq wanr (fun x => wbhs x.1.1.1 x.1.1.2.1) (fun r => ((r.1, (r.2, ())), ())) func72 wcey fun _ => by kernel_rfl)
theorem wbsk : wat prog (62, wbhv) := wae mixed (ww (fdN)) wad (waz wbhv (wac []) wcad noZ [] ((f62.body).getD .skip) (fun x => wbhu x.1.1 x.1.2.1) (fun r => (((), ()), (r, ()))) func62 (wax (by kernel_rfl) lpN) fun _ => by kernel_rfl)
theorem wapn : wat prog (121, wanu) := wae mixed (ww (fdC wpd fdN)) wad (waz wanu (wac [(120, wsb)]) wcae noZ [] ((f121.body).getD .skip) (fun x => wbhw x.1.2.1 x.2.1.1 x.2.1.2.1 x.2.1.2.2.1) (fun r => ((r.1, ()), ((r.2.1, (r.2.2.1, (r.2.2.2, ()))), ()))) func121 (wax (by kernel_rfl) lpN) fun _ => by kernel_rfl)
theorem wbbu : wat prog (170, wawg) := wae mixed (ww (fdC wapn (fdC wbbj (fdC wbbg (fdC wapi (fdC wbbi fdN)))))) wad (waz wawg (wac [(121, wanu), (89, wauv), (177, waup), (176, wali), (178, waut)]) wcaf noZ [] ((f170.body).getD .skip) (fun x => wawe x.2.1.1 x.2.1.2.1 x.2.1.2.2.1) (fun r => ((((), ((), ())), ()), (r.1, (r.2.1, ((r.2.2.1, (r.2.2.2.1, (r.2.2.2.2, ()))), ()))))) func170 (wax (by kernel_rfl) lpN) fun _ => by kernel_rfl)
theorem wbnt : (wady).OK wbhz tt noZ (waf wbia) (waa wbib 0) := wbn (fun _ => rfl) fun _ _ => by kernel_rfl
theorem wcez : wab wbhz tt noZ wbia wbib := wax (by kernel_rfl) (lpC wbnt lpN)
theorem wbsl : wat prog (119, wbhy) := wae mixed (ww (fdN)) wad (waz wbhy wbhz wcag noZ wbia wbib (fun x => wbhx x.1.1 x.1.2.1) (fun r => (((), ()), (r, ()))) func119 wcez fun _ => by kernel_rfl)
theorem wbbv : wat prog (98, wawj) := wae mixed (ww (fdC wbbh (fdC wpd (fdC wbsl (fdC wapn (fdC waph fdN)))))) wad (waz wawj (wac [(194, waus), (120, wsb), (119, wbhy), (121, wanu), (83, wale)]) wcah wcai [] ((f98.body).getD .skip) (fun x => wawh x.1.2.1.1 x.1.2.1.2.1 x.2.1.1 x.2.1.2.1 x.2.1.2.2.1) (fun r => (((), ()), (r.1, ((r.2.1, (r.2.2.1, (r.2.2.2, ()))), ())))) func98 (wax (by kernel_rfl) lpN) fun _ => by kernel_rfl)
theorem wbnu : (wadz).OK wbie tt noZ (waf wbif) (waa wbig 0) := wbn (fun _ => rfl) fun _ _ => by kernel_rfl
theorem wcfa : wab wbie tt noZ wbif wbig := wax (by kernel_rfl) (lpC wbnu lpN)
theorem wbsm : wat prog (122, wbid) := wae mixed (ww (fdC wapl fdN)) wad (waz wbid wbie wcaj noZ wbif wbig (fun x => wbic x.1.1 x.1.2.1 x.1.2.2.1) (fun r => ((r, ()), ())) func122 wcfa fun _ => by kernel_rfl)
theorem wbsn : wat prog (196, wbii) := wae mixed (ww (fdC wbsm fdN)) wad (waz wbii (wac [(122, wbid)]) wcak noZ [] ((f196.body).getD .skip) (fun x => wbih x.1.1.1 x.1.1.2.1 x.1.2.1) (fun r => ((r, ()), ())) func196 (wax (by kernel_rfl) lpN) fun _ => by kernel_rfl)
theorem wbbw : wat prog (101, wawm) := wae mixed (ww (fdC wbbs (fdC wbsn fdN))) wad (waz wawm (wac [(166, wavs), (196, wbii)]) wcal noZ [] ((f101.body).getD .skip) (fun x => wbij x.1.1.1 x.1.1.2.1 x.1.2.1) (fun r => ((r, ()), ())) func101 (wax (by kernel_rfl) lpN) fun _ => by kernel_rfl)
theorem wbnv : (waea).OK wbim tt noZ (waf wbin) (waa wbio 0) := wbn (fun _ => rfl) fun _ _ => by kernel_rfl
theorem wcfb : wab wbim tt noZ wbin wbio := wax (by kernel_rfl) (lpC wbnv lpN)
theorem wbso : wat prog (245, wbil) := wae mixed (ww (fdN)) wad (waz wbil wbim wcam noZ wbin wbio (fun x => wbik x.1.1 x.1.2.1) (fun r => (((), ()), (r, ()))) func245 wcfb fun _ => by kernel_rfl)
theorem wbnw : (waeb).OK waoc tt waob (waf waod) (waa waoe 2) := wbn (fun _ => rfl) fun _ _ => by kernel_rfl
theorem waad : (wlu).OK waoc tt waob (waf waod) (waa waoe 2) := wbn (fun _ => rfl) fun _ _ => by kernel_rfl
theorem wbnx : (waec).OK waoc tt waob (waf waod) (waa waoe 0) := wbn (fun _ => rfl) fun _ _ => by kernel_rfl
theorem wcfc : wab waoc tt waob waod waoe := wax (by kernel_rfl) (lpC wbnw (lpC waad (lpC wbnx lpN)))
theorem wbsp : wat prog (227, wbiq) := wae mixed (ww (fdC wapm (fdC wbbt (fdC wbso fdN)))) wad (waz wbiq waoc wcan waob waod waoe (fun x => wbip x.1.1.1 x.1.1.2.1 x.1.2.1) (fun r => (((), ()), (r, ()))) func227 wcfc fun _ => by kernel_rfl)
theorem wbny : (waed).OK wbit tt noZ (waf wbiu) (waa wbiv 0) := wbn (fun _ => rfl) fun _ _ => by kernel_rfl
theorem wcfd : wab wbit tt noZ wbiu wbiv := wax (by kernel_rfl) (lpC wbny lpN)
theorem wbsq : wat prog (262, wbis) := wae mixed (ww (fdN)) wad (waz wbis wbit wcao noZ wbiu wbiv (fun x => wbir x.1.1.1 x.1.1.2.1 x.1.2.1 x.1.2.2.1) (fun r => ((r, ()), ())) func262 wcfd fun _ => by kernel_rfl)
theorem wbsr : wat prog (239, wbix) := wae mixed (ww (fdC wbsq fdN)) wad (waz wbix (wac [(262, wbis)]) wcap noZ [] ((f239.body).getD .skip) (fun x => wbiw x.1.1.1 x.1.1.2.1 x.1.2.1 x.1.2.2.1) (fun r => ((r, ()), ())) func239 (wax (by kernel_rfl) lpN) fun _ => by kernel_rfl)
theorem wbnz : (waee).OK wbja tt noZ (waf wbjb) (waa wbjc 0) := wbn (fun _ => rfl) fun _ _ => by kernel_rfl
theorem wcfe : wab wbja tt noZ wbjb wbjc := wax (by kernel_rfl) (lpC wbnz lpN)
theorem wbss : wat prog (190, wbiz) := wae mixed (ww (fdC wbsr fdN)) wad (waz wbiz wbja wcaq noZ wbjb wbjc (fun x => wbiy x.1.1.1 x.1.1.2.1 x.1.2.1) (fun r => ((r, ()), ())) func190 wcfe fun _ => by kernel_rfl)
theorem wboa : (waef).OK wbjf tt noZ (waf wbjg) (waa wbjh 0) := wbn (fun _ => rfl) fun _ _ => by kernel_rfl
theorem wcff : wab wbjf tt noZ wbjg wbjh := wax (by kernel_rfl) (lpC wboa lpN)
theorem wbst : wat prog (191, wbje) := wae mixed (ww (fdN)) wad (waz wbje wbjf wcar noZ wbjg wbjh (fun x => wbjd x.1.1.1 x.1.1.2.1 x.1.2.1) (fun r => ((r, ()), ())) func191 wcff fun _ => by kernel_rfl)
theorem wbsu : wat prog (192, wbjj) := wae mixed (ww (fdC wbss (fdC wbst fdN))) wad (waz wbjj (wac [(190, wbiz), (191, wbje)]) wcas noZ [] ((f192.body).getD .skip) (fun x => wbji x.1.1.1 x.1.1.2.1 x.1.2.1) (fun r => ((r, ()), ())) func192 (wax (by kernel_rfl) lpN) fun _ => by kernel_rfl)
theorem wbob : (waeg).OK wbjl tt noZ (waf wbjm) (waa wbjn 0) := wbn (fun _ => rfl) fun _ _ => by kernel_rfl
theorem wcfg : wab wbjl tt noZ wbjm wbjn := wax (by kernel_rfl) (lpC wbob lpN)
theorem wbbx : wat prog (172, wawt) := wae mixed (ww (fdC wbsp (fdC wbsu fdN))) wad (waz wawt wbjl wcat noZ wbjm wbjn (fun x => wbjk x.1.1.1 x.1.1.2.1 x.1.2.1) (fun r => (((), (r.1, ())), (r.2, ()))) func172 wcfg fun _ => by kernel_rfl)
theorem wboc : (waeh).OK wbjp tt noZ (waf wbjq) (waa wbjr 0) := wbn (fun _ => rfl) fun _ _ => by kernel_rfl
theorem wcfh : wab wbjp tt noZ wbjq wbjr := wax (by kernel_rfl) (lpC wboc lpN)
theorem wbby : wat prog (78, wawu) := wae mixed (ww (fdC wbbw (fdC wwj (fdC wbbx fdN)))) wad (waz wawu wbjp wcau noZ wbjq wbjr (fun x => wbjo x.1.1.1 x.1.1.2.1 x.1.2.1) (fun r => (((), (r.1, (r.2.1, ()))), (r.2.2, ()))) func78 wcfh fun _ => by kernel_rfl)
theorem wbsv : wat prog (73, wbjt) := wae mixed (ww (fdC wbbu (fdC wbbv (fdC wbby (fdC wapn fdN))))) wad (waz wbjt (wac [(170, wawg), (98, wawj), (78, wawu), (121, wanu)]) wcav wcaw [] ((f73.body).getD .skip) (fun x => wbjs x.1.1) (fun r => (((r.1, (r.2.1, ())), ((), ())), (r.2.2, ()))) func73 (wax (by kernel_rfl) lpN) fun _ => by kernel_rfl)
theorem wbod : (waei).OK wbjw tt noZ (waf wbjx) (waa wbjy 0) := wbn (fun _ => rfl) fun _ _ => by kernel_rfl
theorem wcfi : wab wbjw tt noZ wbjx wbjy := wax (by kernel_rfl) (lpC wbod lpN)
theorem wbsw : wat prog (117, wbjv) := wae mixed (ww (fdC wapj fdN)) wad (waz wbjv wbjw wcax noZ wbjx wbjy (fun x => wbju x.1.1 x.1.2.1) (fun r => ((r, ()), ())) func117 wcfi fun _ => by kernel_rfl)
theorem wcfj : wat prog (195, D_zi) := wae mixed (ww (fdC wbsw fdN)) wad (waz D_zi (wac [(117, wbjv)]) K_zi noZ [] ((f195.body).getD .skip) (fun x => T_zi x.1.1.1 x.1.1.2.1 x.1.2.1) (fun r => ((r, ()), ())) func195 (wax (by kernel_rfl) lpN) fun _ => by kernel_rfl)
theorem wapo : wat prog (99, waoj) := wae mixed (ww (fdC wayj (fdC wcfj fdN))) wad (waz waoj (wac [(157, D_zu), (195, D_zi)]) wcbb noZ [] ((f99.body).getD .skip) (fun x => wbjz x.1.1.1 x.1.1.2.1 x.1.2.1) (fun r => ((r, ()), ())) func99 (wax (by kernel_rfl) lpN) fun _ => by kernel_rfl)
theorem wbsx : (waok).OK E_zn tt noZ (waf O_zn) (waa C_zn 0) := wbn (fun _ => rfl) fun _ _ => by kernel_rfl
theorem o_zn : wab E_zn tt noZ O_zn C_zn := wax (by kernel_rfl) (lpC wbsx lpN)
theorem wcfk : wat prog (187, D_zn) := wae mixed (ww (fdN)) wad (waz D_zn E_zn K_zn noZ O_zn C_zn (fun x => T_zn x.1.1.1 x.1.1.2.1 x.1.2.1) (fun r => ((r, ()), ())) func187 o_zn fun _ => by kernel_rfl)
theorem wbsy : (waol).OK E_zp tt noZ (waf O_zp) (waa C_zp 0) := wbn (fun _ => rfl) fun _ _ => by kernel_rfl
theorem o_zp : wab E_zp tt noZ O_zp C_zp := wax (by kernel_rfl) (lpC wbsy lpN)
theorem wcfl : wat prog (274, D_zp) := wae mixed (ww (fdN)) wad (waz D_zp E_zp K_zp noZ O_zp C_zp (fun x => T_zp x.1.1.1 x.1.1.2.1 x.1.2.1 x.1.2.2.1) (fun r => ((r, ()), ())) func274 o_zp fun _ => by kernel_rfl)
theorem wbsz : (waom).OK E_zo tt noZ (waf O_zo) (waa C_zo 0) := wbn (fun _ => rfl) fun _ _ => by kernel_rfl
theorem o_zo : wab E_zo tt noZ O_zo C_zo := wax (by kernel_rfl) (lpC wbsz lpN)
theorem wcfm : wat prog (261, D_zo) := wae mixed (ww (fdC wcfl fdN)) wad (waz D_zo E_zo K_zo noZ O_zo C_zo (fun x => T_zo x.1.1.1 x.1.1.2.1 x.1.2.1) (fun r => (((), ()), (r, ()))) func261 o_zo fun _ => by kernel_rfl)
theorem wbta : (waon).OK E_zj tt noZ (waf O_zj) (waa C_zj 0) := wbn (fun _ => rfl) fun _ _ => by kernel_rfl
theorem o_zj : wab E_zj tt noZ O_zj C_zj := wax (by kernel_rfl) (lpC wbta lpN)
theorem wcfn : wat prog (237, D_zj) := wae mixed (ww (fdC wcfm fdN)) wad (waz D_zj E_zj K_zj noZ O_zj C_zj (fun x => T_zj x.1.1.1 x.1.1.2.1 x.1.2.1) (fun r => (((), ()), (r, ()))) func237 o_zj fun _ => by kernel_rfl)
theorem wboe : (waej).OK wbkc tt noZ (waf wbkd) (waa wbke 0) := wbn (fun _ => rfl) fun _ _ => by kernel_rfl
theorem wcfo : wab wbkc tt noZ wbkd wbke := wax (by kernel_rfl) (lpC wboe lpN)
theorem wbtb : wat prog (236, wbkb) := wae mixed (ww (fdN)) wad (waz wbkb wbkc wcbw noZ wbkd wbke (fun x => wbka x.1.1) (fun r => ((r, ()), ())) func236 wcfo fun _ => by kernel_rfl)
theorem wcfp : wat prog (186, D_zq) := wae mixed (ww (fdC wcfn (fdC wbtb fdN))) wad (waz D_zq (wac [(237, D_zj), (236, wbkb)]) K_zq noZ [] ((f186.body).getD .skip) (fun x => T_zq x.1.1.1 x.1.1.2.1 x.1.2.1) (fun r => ((r, ()), ())) func186 (wax (by kernel_rfl) lpN) fun _ => by kernel_rfl)
theorem wapp : wat prog (174, D_zr) := wae mixed (ww (fdC wcfk (fdC wcfp fdN))) wad (waz D_zr (wac [(187, D_zn), (186, D_zq)]) K_zr noZ [] ((f174.body).getD .skip) (fun x => T_zr x.1.1.1 x.1.1.2.1 x.1.2.1) (fun r => ((r, ()), ())) func174 (wax (by kernel_rfl) lpN) fun _ => by kernel_rfl)
theorem wbof : (waek).OK wbkh tt noZ (waf wbki) (waa wbkj 0) := wbn (fun _ => rfl) fun _ _ => by kernel_rfl
theorem wcfq : wab wbkh tt noZ wbki wbkj := wax (by kernel_rfl) (lpC wbof lpN)
theorem wbbz : wat prog (141, wawy) := wae mixed (ww (fdN)) wad (waz wawy wbkh wcca noZ wbki wbkj (fun x => wbkg x.1.1) (fun r => ((r, ()), ())) func141 wcfq fun _ => by kernel_rfl)
theorem wcfr : wat prog (226, D_zg) := wbao mixed (ww (fdC wapp fdN)) wad (wbqz D_zg (wac [(174, D_zr)]) K_zg wbrh noZ [] ((f226.body).getD .skip) (fun x => T_zg x.2.1 x.2.2.1.1 x.2.2.1.2.1 x.2.2.2.1.1) (fun r => match r with | .inl a => .inl ((true, ()), (a.1, ((a.2.1, (a.2.2.1, ())), ((a.2.2.2, ()), (((), ()), ()))))) | .inr b => .inr ((false, ()), (b.1, ((b.2.1, (b.2.2.1, ())), ((b.2.2.2, ()), (((), ()), ())))))) func226 (wax (by kernel_rfl) lpN) (fun _ => by kernel_rfl) fun r => by cases r <;> rfl)
theorem wbtc : wat prog (145, wbkl) := wae mixed (ww (fdC wbbz (fdC wafa fdN))) wad (waz wbkl (wac [(141, wawy), (144, wahi)]) wccd noZ [] ((f145.body).getD .skip) (fun x => wbkk x.1.1 x.1.2.1 x.1.2.2.1) (fun r => (((), ()), (r, ()))) func145 (wax (by kernel_rfl) lpN) fun _ => by kernel_rfl)
theorem wbtd : (waor).OK E_zk tt noZ (waf O_zk) (waa C_zk 0) := wbn (fun _ => rfl) fun _ _ => by kernel_rfl
theorem wbte : (waos).OK E_zk tt noZ (waf O_zk) (waa C_zk 2) := wbn (fun _ => rfl) fun _ _ => by kernel_rfl
theorem wbtf : (waot).OK E_zk tt noZ (waf O_zk) (waa C_zk 6) := wbn (fun _ => rfl) fun _ _ => by kernel_rfl
theorem wbtg : (waou).OK E_zk tt noZ (waf O_zk) (waa C_zk 4) := wbn (fun _ => rfl) fun _ _ => by kernel_rfl
theorem o_zk : wab E_zk tt noZ O_zk C_zk := wax (by kernel_rfl) (lpC wbtd (lpC wbte (lpC wbtf (lpC wbtg lpN))))
theorem wcfs : wat prog (225, D_zk) := wbao mixed (ww (fdC wbbz (fdC wapk (fdC wafa (fdC wcfr (fdC wbtc fdN)))))) wad (wbqz D_zk E_zk K_zk wbri noZ O_zk C_zk (fun x => T_zk x.1.1.1 x.1.1.2.1 x.1.2.1 x.2.1.1 x.2.1.2.1 x.2.2.1.1) (fun r => match r with | .inl a => .inl ((), ((a.1, (a.2.1, ())), ((a.2.2, ()), (((), ()), ())))) | .inr b => .inr ((), ((b.1, (b.2.1, ())), ((b.2.2.1, ()), (((), ()), (b.2.2.2, ())))))) func225 o_zk (fun _ => by kernel_rfl) fun r => by cases r <;> rfl)
theorem wbth : wat prog (171, D_zf) := wae mixed (ww (fdC wapp (fdC wcfs fdN))) wad (waz D_zf (wac [(174, D_zr), (225, D_zk)]) K_zf noZ [] ((f171.body).getD .skip) (fun x => T_zf x.1.1.1 x.1.1.2.1 x.1.2.1) (fun r => (((), (r.1, ())), (r.2, ()))) func171 (wax (by kernel_rfl) lpN) fun _ => by kernel_rfl)
theorem wcft : wat prog (74, D_zw) := wae mixed (ww (fdC wapo (fdC wbth fdN))) wad (waz D_zw (wac [(99, waoj), (171, D_zf)]) K_zw noZ [] ((f74.body).getD .skip) (fun x => T_zw x.1.1.1 x.1.1.2.1 x.1.2.1) (fun r => ((r.1, (r.2, ())), ())) func74 (wax (by kernel_rfl) lpN) fun _ => by kernel_rfl)
theorem wbti : wat prog (75, wbkn) := wae mixed (ww (fdC wbbw (fdC wbbx fdN))) wad (waz wbkn (wac [(101, wawm), (172, wawt)]) wccj noZ [] ((f75.body).getD .skip) (fun x => wbkm x.1.1.1 x.1.1.2.1 x.1.2.1) (fun r => ((r.1, (r.2, ())), ())) func75 (wax (by kernel_rfl) lpN) fun _ => by kernel_rfl)
theorem wbtj : wat prog (76, wbkp) := wae mixed (ww (fdC wbbu (fdC wbbv fdN))) wad (waz wbkp (wac [(170, wawg), (98, wawj)]) wcck wccl [] ((f76.body).getD .skip) (fun x => wbko x.1.1) (fun r => (((r.1, (r.2.1, ())), ((), ())), (r.2.2, ()))) func76 (wax (by kernel_rfl) lpN) fun _ => by kernel_rfl)
theorem wbtk : (waov).OK E_zy tt noZ (waf O_zy) (waa C_zy 0) := wbn (fun _ => rfl) fun _ _ => by kernel_rfl
theorem o_zy : wab E_zy tt noZ O_zy C_zy := wax (by kernel_rfl) (lpC wbtk lpN)
theorem wcfu : wat prog (77, D_zy) := wae mixed (ww (fdC wapo (fdC wbbp (fdC wbth fdN)))) wad (waz D_zy E_zy K_zy noZ O_zy C_zy (fun x => T_zy x.1.1.1 x.1.1.2.1 x.1.2.1) (fun r => (((), (r.1, (r.2.1, ()))), (r.2.2, ()))) func77 o_zy fun _ => by kernel_rfl)
theorem wbog : (wael).OK wbks tt noZ (waf wbkt) (waa wbku 0) := wbn (fun _ => rfl) fun _ _ => by kernel_rfl
theorem wcfv : wab wbks tt noZ wbkt wbku := wax (by kernel_rfl) (lpC wbog lpN)
theorem wbtl : wat prog (69, wbkr) := wae mixed (ww (fdN)) wad (waz wbkr wbks wccr noZ wbkt wbku (fun x => wbkq x.1.1 x.1.2.1) (fun r => ((r, ()), ())) func69 wcfv fun _ => by kernel_rfl)
theorem wbtm : (waox).OK E_zx tt noZ (waf O_zx) (waa C_zx 6) := wbn (fun _ => rfl) fun _ _ => by kernel_rfl
theorem wbtn : (waoy).OK E_zx tt noZ (waf O_zx) (waa C_zx 4) := wbn (fun _ => rfl) fun _ _ => by kernel_rfl
theorem wbto : (waoz).OK E_zx tt noZ (waf O_zx) (waa C_zx 2) := wbn (fun _ => rfl) fun _ _ => by kernel_rfl
theorem wbtp : (wapa).OK E_zx tt noZ (waf O_zx) (waa C_zx 0) := wbn (fun _ => rfl) fun _ _ => by kernel_rfl
theorem o_zx : wab E_zx tt noZ O_zx C_zx := wax (by kernel_rfl) (lpC wbtm (lpC wbtn (lpC wbto (lpC wbtp lpN))))
theorem wcfw : wat prog (79, D_zx) := wae mixed (ww (fdC wayj fdN)) wad (waz D_zx E_zx K_zx noZ O_zx C_zx (fun x => T_zx x.1.1.1 x.1.1.2.1) (fun r => ((r.1, (r.2, ())), ())) func79 o_zx fun _ => by kernel_rfl)
theorem wcfx : wat prog (80, D_zz) := wae mixed (ww (fdC wapo (fdC wapp fdN))) wad (waz D_zz (wac [(99, waoj), (174, D_zr)]) K_zz noZ [] ((f80.body).getD .skip) (fun x => T_zz x.1.1.1 x.1.1.2.1 x.1.2.1) (fun r => ((r.1, (r.2, ())), ())) func80 (wax (by kernel_rfl) lpN) fun _ => by kernel_rfl)
theorem wbtq : wat prog (260, wbkv) := wae mixed (ww (fdN)) wad (waz wbkv (wac []) wccw noZ [] ((f260.body).getD .skip) (fun x => waxc x.1.1) (fun r => ((r, ()), ())) func260 (wax (by kernel_rfl) lpN) fun _ => by kernel_rfl)
theorem wbca : wat prog (234, waxf) := wae mixed (ww (fdC wbtq fdN)) wad (waz waxf (wac [(260, wbkv)]) wccx noZ [] ((f234.body).getD .skip) (fun x => waxe x.1.1) (fun r => ((r, ()), ())) func234 (wax (by kernel_rfl) lpN) fun _ => by kernel_rfl)
theorem wboh : (waem).OK waxi tt noZ (waf waxj) (waa waxk 2) := wbn (fun _ => rfl) fun _ _ => by kernel_rfl
theorem wboi : (waen).OK waxi tt noZ (waf waxj) (waa waxk 0) := wbn (fun _ => rfl) fun _ _ => by kernel_rfl
theorem wcfy : wab waxi tt noZ waxj waxk := wax (by kernel_rfl) (lpC wboh (lpC wboi lpN))
theorem wbtr : wat prog (251, wbkw) := wae mixed (ww (fdN)) wad (waz wbkw waxi wccy noZ waxj waxk (fun x => waxg x.1.2.1 x.1.2.2.1 x.1.2.2.2.1 x.2.1) (fun r => ((), (r, ()))) func251 wcfy fun _ => by kernel_rfl)
theorem wbts : wat prog (270, wbkx) := wae mixed (ww (fdC wbca fdN)) wad (waz wbkx (wac [(234, waxf)]) wccz noZ [] ((f270.body).getD .skip) (fun x => waxl x.1.1) (fun r => ((r, ()), ())) func270 (wax (by kernel_rfl) lpN) fun _ => by kernel_rfl)
theorem wbtt : wat prog (271, wbky) := wae mixed (ww (fdN)) wad (waz wbky (wac []) wcda noZ [] ((f271.body).getD .skip) (fun x => waxn x.2.1.1) (fun r => ((r.1, ()), ((r.2, ()), ()))) func271 (wax (by kernel_rfl) lpN) fun _ => by kernel_rfl)
theorem wboj : (waeo).OK wbla tt noZ (waf wblb) (waa wblc 0) := wbn (fun _ => rfl) fun _ _ => by kernel_rfl
theorem wcfz : wab wbla tt noZ wblb wblc := wax (by kernel_rfl) (lpC wboj lpN)
theorem wbtu : wat prog (253, wbkz) := wae mixed (ww (fdC wbts (fdC wbtt fdN))) wad (waz wbkz wbla wcdb noZ wblb wblc (fun x => waxp x.1.2.1 x.1.2.2.1 x.1.2.2.2.1 x.2.1) (fun r => ((), (r, ()))) func253 wcfz fun _ => by kernel_rfl)
theorem wbtv : wat prog (286, wbld) := wae mixed (ww (fdN)) wad (waz wbld (wac []) wcdc noZ [] ((f286.body).getD .skip) (fun x => waxr x.1.1 x.1.2.1 x.1.2.2.1 x.1.2.2.2.2.1 x.2.1.1) (fun r => ((r.1, (r.2.1, ())), ((r.2.2, ()), ()))) func286 (wax (by kernel_rfl) lpN) fun _ => by kernel_rfl)
theorem wbcb : wat prog (273, waxt) := wae mixed (ww (fdC wbtv fdN)) wad (waz waxt (wac [(286, wbld)]) wcdd noZ [] ((f273.body).getD .skip) (fun x => waxs x.1.1 x.1.2.1 x.1.2.2.1 x.1.2.2.2.1 x.1.2.2.2.2.2.1 x.2.1.1) (fun r => ((r.1, ()), ((r.2, ()), ()))) func273 (wax (by kernel_rfl) lpN) fun _ => by kernel_rfl)
theorem wbtw : wat prog (272, wble) := wae mixed (ww (fdC wbcb fdN)) wad (waz wble (wac [(273, waxt)]) wcde noZ [] ((f272.body).getD .skip) (fun x => waxu x.1.1 x.1.2.1 x.1.2.2.2.1 x.2.1.1) (fun r => ((r.1, ()), ((r.2, ()), ()))) func272 (wax (by kernel_rfl) lpN) fun _ => by kernel_rfl)
theorem wbtx : wat prog (254, wblf) := wae mixed (ww (fdC wbtw (fdC wbcb fdN))) wad (waz wblf (wac [(272, wble), (273, waxt)]) wcdf noZ [] ((f254.body).getD .skip) (fun x => waxv x.1.1 x.1.2.1 x.1.2.2.1 x.1.2.2.2.1) (fun r => ((r.1, (r.2, ())), ())) func254 (wax (by kernel_rfl) lpN) fun _ => by kernel_rfl)
theorem wbok : (waep).OK wzx tt noZ (waf wzy) (waa wzz 0) := wbn (fun _ => rfl) fun _ _ => by kernel_rfl
theorem wbol : (waeq).OK wzx tt noZ (waf wzy) (waa wzz 2) := wbn (fun _ => rfl) fun _ _ => by kernel_rfl
theorem wbom : (waer).OK wzx tt noZ (waf wzy) (waa wzz 6) := wbn (fun _ => rfl) fun _ _ => by kernel_rfl
theorem wbon : (waes).OK wzx tt noZ (waf wzy) (waa wzz 8) := wbn (fun _ => rfl) fun _ _ => by kernel_rfl
theorem wboo : (waet).OK wzx tt noZ (waf wzy) (waa wzz 4) := wbn (fun _ => rfl) fun _ _ => by kernel_rfl
theorem wcga : wab wzx tt noZ wzy wzz := wax (by kernel_rfl) (lpC wbok (lpC wbol (lpC wbom (lpC wbon (lpC wboo lpN)))))
theorem wbty : wat prog (258, wblg) := wae mixed (ww (fdN)) wad (waz wblg wzx wcdg noZ wzy wzz (fun x => waxw x.1.2.1 x.1.2.2.1 x.1.2.2.2.1 x.1.2.2.2.2.1 x.2.1) (fun r => ((r.1, (r.2.1, ())), (r.2.2, ()))) func258 wcga fun _ => by kernel_rfl)
theorem wbop (rec_ : (Int) → (Int) → (Int) → (Yd) → Yc → Option Yc) : (waeu rec_).OK (wbli rec_) tt noZ (waf (wblj rec_)) (waa wblk 0) := wbn (fun _ => rfl) fun _ _ => by kernel_rfl
theorem wcgb (rec_ : (Int) → (Int) → (Int) → (Yd) → Yc → Option Yc) : wab (wbli rec_) tt noZ (wblj rec_) wblk := wax (by kernel_rfl) (lpC (wbop rec_) lpN)
theorem wbcc : ∀ n : Nat, wat prog (233, wblh n)
 | 0 => fun _ _ h => nomatch h
 | n + 1 => wae mixed (ww (fdC wbtr (fdC wbtu (fdC wbtx (fdC wbty (fdC (wbcc n) fdN)))))) wad (waz (wblh (n + 1)) (wbli (wsx n)) wcdh noZ (wblj (wsx n)) wblk (fun x => waxx (wsx n) x.1.2.1 x.1.2.2.1 x.1.2.2.2.1 x.1.2.2.2.2.1 x.2.1) (fun r => ((), (r, ()))) func233 (wcgb (wsx n)) fun _ => by kernel_rfl)
theorem wbcd : wat prog (184, waya) := wae mixed (ww (fdC wbca (fdC (wbcc 1000000) fdN))) wad (waz waya (wac [(234, waxf), (233, wblh 1000000)]) wcdi noZ [] ((f184.body).getD .skip) (fun x => waxy x.1.2.1 x.2.1) (fun r => ((), (r, ()))) func184 (wax (by kernel_rfl) lpN) fun _ => by kernel_rfl)
theorem wboq : (waev).OK wblm tt noZ (waf wbln) (waa wblo 0) := wbn (fun _ => rfl) fun _ _ => by kernel_rfl
theorem wcgc : wab wblm tt noZ wbln wblo := wax (by kernel_rfl) (lpC wboq lpN)
theorem wbtz : wat prog (235, wbll) := wae mixed (ww (fdC wbne fdN)) wad (waz wbll wblm wcdj noZ wbln wblo (fun x => wayb x.1.1 x.1.2.1) (fun r => ((r, ()), ())) func235 wcgc fun _ => by kernel_rfl)
theorem wbua : (wape).OK E_zb tt noZ (waf O_zb) (waa C_zb 0) := wbn (fun _ => rfl) fun _ _ => by kernel_rfl
theorem o_zb : wab E_zb tt noZ O_zb C_zb := wax (by kernel_rfl) (lpC wbua lpN)
theorem wcgd : wat prog (181, D_zb) := wae mixed (ww (fdN)) wad (waz D_zb E_zb K_zb noZ O_zb C_zb (fun x => T_zb x.1.1) (fun r => ((r, ()), ())) func181 o_zb fun _ => by kernel_rfl)
theorem wbub : wat prog (185, wblp) := wae mixed (ww (fdC wbne (fdC wbtz (fdC wcgd fdN)))) wad (waz wblp (wac [(182, D_za), (235, wbll), (181, D_zb)]) wcdo noZ [] ((f185.body).getD .skip) (fun x => wayd x.1.1 x.1.2.1) (fun r => ((r, ()), ())) func185 (wax (by kernel_rfl) lpN) fun _ => by kernel_rfl)
theorem wbor : (waex).OK wbls tt wblr (waf wblt) (waa wblu 0) := wbn (fun _ => rfl) fun _ _ => by kernel_rfl
theorem wcge : wab wbls tt wblr wblt wblu := wax (by kernel_rfl) (lpC wbor lpN)
theorem wbuc : wat prog (91, wblq) := wae mixed (ww (fdC wafa (fdC wbcd (fdC wbcd (fdC wbub fdN))))) wad (waz wblq wbls wcdp wblr wblt wblu (fun x => wayf x.1.1) (fun r => (((), ()), (r, ()))) func91 wcge fun _ => by kernel_rfl)
theorem wbos : (waey).OK wblw tt noZ (waf wblx) (waa wbly 0) := wbn (fun _ => rfl) fun _ _ => by kernel_rfl
theorem wcgf : wab wblw tt noZ wblx wbly := wax (by kernel_rfl) (lpC wbos lpN)
theorem wbce : wat prog (94, wayh) := wae mixed (ww (fdN)) wad (waz wayh wblw wcdq noZ wblx wbly (fun x => wblv x.1.2.1 x.2.1) (fun r => (((), ()), (r, ()))) func94 wcgf fun _ => by kernel_rfl)
theorem wcgg : wat prog (149, D_zd) := wae mixed (ww (fdC wayj (fdC wbuc (fdC wbce (fdC wbce (fdC wapp fdN)))))) wad (waz D_zd (wac [(157, D_zu), (91, wblq), (94, wayh), (94, wayh), (174, D_zr)]) K_zd noZ [] ((f149.body).getD .skip) (fun x => T_zd x.1.1.1 x.1.1.2.1) (fun r => (((), (r.1, ())), (r.2, ()))) func149 (wax (by kernel_rfl) lpN) fun _ => by kernel_rfl)
theorem wcgh : wat prog (81, D_ze) := wae mixed (ww (fdC wcgg (fdC wapp fdN))) wad (waz D_ze (wac [(149, D_zd), (174, D_zr)]) K_ze noZ [] ((f81.body).getD .skip) (fun x => T_ze x.1.1.1 x.1.1.2.1) (fun r => ((r.1, (r.2, ())), ())) func81 (wax (by kernel_rfl) lpN) fun _ => by kernel_rfl)
theorem wbot : (waez).OK wbmb tt wbma (waf wbmc) (waa wbmd 0) := wbn (fun _ => rfl) fun _ _ => by kernel_rfl
theorem wcgi : wab wbmb tt wbma wbmc wbmd := wax (by kernel_rfl) (lpC wbot lpN)
theorem wbud : wat prog (8, wblz) := wae mixed (ww (fdC wbrm (fdC wbru (fdC wceq (fdC wbsj (fdC wbsk (fdC wbsv (fdC wcft (fdC wbti (fdC wbtj (fdC wcfu (fdC wbby (fdC wbtl (fdC wcfw (fdC wcfx (fdC wcgh fdN)))))))))))))))) wad (waz wblz wbmb wcdv wbma wbmc wbmd (fun x => wayi x.1.1) (fun r => ((r, ()), ())) func8 wcgi fun _ => by kernel_rfl)
end Go.Proofs.YtnagpmhaddfgmaaGreat
