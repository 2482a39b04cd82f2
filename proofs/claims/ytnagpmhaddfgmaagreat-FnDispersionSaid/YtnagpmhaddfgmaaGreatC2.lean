import Derived.Test.YtnagpmhaddfgmaaGreatC1
namespace Go.Proofs.YtnagpmhaddfgmaaGreat
open Go.Proofs.Tryz
open List (length getD set)
open Int (toNat)
open IntKind (wrap)
theorem mixed : prog.follows .mixedOrders = true := by kernel_rfl
theorem wad : wao prog tt := wbng (by kernel_rfl)
theorem wboq : wav prog (9, wbbw) := wac mixed (ww (fdN)) wad (wba wbbw (wab []) wbvi noZ [] ((f9.body).getD .skip) (fun x => wbbu x.1.1) (fun r => ((r, ()), ())) func9 (wbb (by kernel_rfl) lpN) fun _ => by kernel_rfl)
theorem wbor : wav prog (202, wbby) := wac mixed (ww (fdN)) wad (wba wbby (wab []) wbvj noZ [] ((f202.body).getD .skip) (fun x => wbbx x.2.1.1 x.2.1.2.1 x.2.1.2.2.1) (fun r => ((r.1, ()), ((r.2.1, (r.2.2.1, (r.2.2.2, ()))), ()))) func202 (wbb (by kernel_rfl) lpN) fun _ => by kernel_rfl)
theorem wvj : wav prog (120, wxi) := wac mixed (ww (fdC wbor fdN)) wad (wba wxi (wab [(202, wbby)]) wbvk noZ [] ((f120.body).getD .skip) (fun x => wbbz x.1.2.1 x.2.1.1 x.2.1.2.1 x.2.1.2.2.1) (fun r => ((r.1, ()), ((r.2.1, (r.2.2.1, (r.2.2.2, ()))), ()))) func120 (wbb (by kernel_rfl) lpN) fun _ => by kernel_rfl)
theorem wadq : wav prog (83, wafj) := wac mixed (ww (fdC wvj fdN)) wad (wba wafj (wab [(120, wxi)]) wbvl noZ [] ((f83.body).getD .skip) (fun x => wbca x.1.2.1 x.2.1.1 x.2.1.2.1 x.2.1.2.2.1) (fun r => ((r.1, ()), ((r.2.1, (r.2.2.1, (r.2.2.2, ()))), ()))) func83 (wbb (by kernel_rfl) lpN) fun _ => by kernel_rfl)
theorem wanl : wav prog (194, wajm) := wac mixed (ww (fdN)) wad (wba wajm (wab []) wbvm noZ [] ((f194.body).getD .skip) (fun x => wbcb x.1.1 x.1.2.1) (fun r => ((r, ()), ())) func194 (wbb (by kernel_rfl) lpN) fun _ => by kernel_rfl)
theorem wazp : wav prog (121, warz) := wac mixed (ww (fdC wvj fdN)) wad (wba warz (wab [(120, wxi)]) wbvn noZ [] ((f121.body).getD .skip) (fun x => wbcc x.1.2.1 x.2.1.1 x.2.1.2.1 x.2.1.2.2.1) (fun r => ((r.1, ()), ((r.2.1, (r.2.2.1, (r.2.2.2, ()))), ()))) func121 (wbb (by kernel_rfl) lpN) fun _ => by kernel_rfl)
theorem wbos : wav prog (197, wbce) := wac mixed (ww (fdN)) wad (wba wbce (wab []) wbvo noZ [] ((f197.body).getD .skip) (fun x => wbcd x.1.1 x.1.2.1) (fun r => ((r, ()), ())) func197 (wbb (by kernel_rfl) lpN) fun _ => by kernel_rfl)
theorem wbim : (waaq).OK wqw tt wqv (wae wqx) (wo whd 0) := wbh (fun _ => rfl) fun _ _ => by kernel_rfl
theorem wbin : (waar).OK wqw tt wqv (wae wqx) (wo whd 4) := wbh (fun _ => rfl) fun _ _ => by kernel_rfl
theorem wbio : (waas).OK wqw tt wqv (wae wqx) (wo whd 2) := wbh (fun _ => rfl) fun _ _ => by kernel_rfl
theorem wavz : (wuo).OK wqw tt wqv (wae wqx) (wo whd 12) := wbh (fun _ => rfl) fun _ _ => by kernel_rfl
theorem wawa : (wup).OK wqw tt wqv (wae wqx) (wo whd 10) := wbh (fun _ => rfl) fun _ _ => by kernel_rfl
theorem wbip : (waav).OK wqw tt wqv (wae wqx) (wo whd 8) := wbh (fun _ => rfl) fun _ _ => by kernel_rfl
theorem wbiq : (waaw).OK wqw tt wqv (wae wqx) (wo whd 6) := wbh (fun _ => rfl) fun _ _ => by kernel_rfl
theorem wcah : waa wqw tt wqv wqx whd := wbb (L := [(0, wo whd 0), (2, wo whd 2), (4, wo whd 4), (6, wo whd 6), (8, wo whd 8), (10, wo whd 10), (12, wo whd 12)]) (by kernel_rfl) (lpC wbim (lpC wbio (lpC wbin (lpC wbiq (lpC wbip (lpC wawa (lpC wavz lpN)))))))
theorem wanm : wav prog (103, wajs) := wac mixed (ww (fdC wadq (fdC wanl (fdC wazp (fdC wvj (fdC wbos fdN)))))) wad (wba wajs wqw wbvp wqv wqx whd (fun x => wbcf x.1.2.1 x.2.1.1 x.2.1.2.1 x.2.1.2.2.1) (fun r => (((), ()), (r.1, ((r.2.1, (r.2.2.1, (r.2.2.2, ()))), ())))) func103 wcah fun _ => by kernel_rfl)
theorem wbot : wav prog (23, wbch) := wac mixed (ww (fdC wanm (fdC wadq fdN))) wad (wba wbch (wab [(103, wajs), (83, wafj)]) wbvq wbvr [] ((f23.body).getD .skip) (fun x => wbcg x.1.1) (fun r => (((), (r.1, ())), (r.2, ()))) func23 (wbb (by kernel_rfl) lpN) fun _ => by kernel_rfl)
theorem wbir : (waax).OK wbck tt noZ (wae wbcl) (wo wasd 0) := wbh (fun _ => rfl) fun _ _ => by kernel_rfl
theorem wcai : waa wbck tt noZ wbcl wasd := wbb (L := [(0, wo wasd 0)]) (by kernel_rfl) (lpC wbir lpN)
theorem wbou : wav prog (206, wbcj) := wac mixed (ww (fdN)) wad (wba wbcj wbck wbvs noZ wbcl wasd (fun x => wbci x.1.1 x.1.2.1) (fun r => ((r, ()), ())) func206 wcai fun _ => by kernel_rfl)
theorem wpq : wav prog (126, wuq) := wac mixed (ww (fdC wbou fdN)) wad (wba wuq (wab [(206, wbcj)]) wbvt noZ [] ((f126.body).getD .skip) (fun x => wbcm x.1.1 x.1.2.1) (fun r => ((r, ()), ())) func126 (wbb (by kernel_rfl) lpN) fun _ => by kernel_rfl)
theorem wage : wav prog (104, D_zt) := wac mixed (ww (fdN)) wad (wba D_zt (wab []) K_zt noZ [] ((f104.body).getD .skip) (fun x => T_zt x.1.1 x.1.2.1 x.1.2.2.1) (fun r => ((r, ()), ())) func104 (wbb (by kernel_rfl) lpN) fun _ => by kernel_rfl)
theorem wcaj : wav prog (201, D_zq) := wac mixed (ww (fdC wage fdN)) wad (wba D_zq (wab [(104, D_zt)]) K_zq noZ [] ((f201.body).getD .skip) (fun x => T_zq x.1.1 x.1.2.1.1 x.1.2.2.1.1) (fun r => ((r, ()), ())) func201 (wbb (by kernel_rfl) lpN) fun _ => by kernel_rfl)
theorem wcak : wav prog (116, D_zp) := wac mixed (ww (fdC wpq (fdC wpq (fdC wcaj fdN)))) wad (wba D_zp (wab [(126, wuq), (126, wuq), (201, D_zq)]) K_zp noZ [] ((f116.body).getD .skip) (fun x => T_zp x.1.1 x.1.2.1 x.1.2.2.1) (fun r => ((r, ()), ())) func116 (wbb (by kernel_rfl) lpN) fun _ => by kernel_rfl)
theorem wbov : (waju).OK E_zj tt noZ (wae O_zj) (wo C_zj 0) := wbh (fun _ => rfl) fun _ _ => by kernel_rfl
theorem wbow : (wajv).OK E_zj tt noZ (wae O_zj) (wo C_zj 4) := wbh (fun _ => rfl) fun _ _ => by kernel_rfl
theorem wbox : (wajw).OK E_zj tt noZ (wae O_zj) (wo C_zj 2) := wbh (fun _ => rfl) fun _ _ => by kernel_rfl
theorem o_zj : waa E_zj tt noZ O_zj C_zj := wbb (L := [(0, wo C_zj 0), (2, wo C_zj 2), (4, wo C_zj 4)]) (by kernel_rfl) (lpC wbov (lpC wbox (lpC wbow lpN)))
theorem wyp : wav prog (30, D_zj) := wac mixed (ww (fdC wcak fdN)) wad (wba D_zj E_zj K_zj noZ O_zj C_zj (fun x => T_zj x.1.1) (fun r => ((r, ()), ())) func30 o_zj fun _ => by kernel_rfl)
theorem wcal : wav prog (143, D_zr) := wac mixed (ww (fdN)) wad (wba D_zr (wab []) K_zr noZ [] ((f143.body).getD .skip) (fun x => T_zr x.1.1 x.1.2.1) (fun r => ((r, ()), ())) func143 (wbb (by kernel_rfl) lpN) fun _ => by kernel_rfl)
theorem wboy : (wajy).OK E_zs tt noZ (wae O_zs) (wo C_zs 0) := wbh (fun _ => rfl) fun _ _ => by kernel_rfl
theorem o_zs : waa E_zs tt noZ O_zs C_zs := wbb (L := [(0, wo C_zs 0)]) (by kernel_rfl) (lpC wboy lpN)
theorem wcam : wav prog (144, D_zs) := wac mixed (ww (fdC wcal fdN)) wad (wba D_zs E_zs K_zs noZ O_zs C_zs (fun x => T_zs x.1.1) (fun r => (((), ()), (r, ()))) func144 o_zs fun _ => by kernel_rfl)
theorem wboz : wav prog (260, wbcn) := wac mixed (ww (fdN)) wad (wba wbcn (wab []) wbwf noZ [] ((f260.body).getD .skip) (fun x => wasg x.1.1) (fun r => ((r, ()), ())) func260 (wbb (by kernel_rfl) lpN) fun _ => by kernel_rfl)
theorem wann : wav prog (234, wajz) := wac mixed (ww (fdC wboz fdN)) wad (wba wajz (wab [(260, wbcn)]) wbwg noZ [] ((f234.body).getD .skip) (fun x => wasi x.1.1) (fun r => ((r, ()), ())) func234 (wbb (by kernel_rfl) lpN) fun _ => by kernel_rfl)
theorem wbis : (waaz).OK wasl tt noZ (wae wasm) (wo wafn 2) := wbh (fun _ => rfl) fun _ _ => by kernel_rfl
theorem wbit : (waba).OK wasl tt noZ (wae wasm) (wo wafn 0) := wbh (fun _ => rfl) fun _ _ => by kernel_rfl
theorem wcan : waa wasl tt noZ wasm wafn := wbb (L := [(0, wo wafn 0), (2, wo wafn 2)]) (by kernel_rfl) (lpC wbit (lpC wbis lpN))
theorem wbpa : wav prog (251, wbco) := wac mixed (ww (fdN)) wad (wba wbco wasl wbwh noZ wasm wafn (fun x => wasj x.1.2.1 x.1.2.2.1 x.1.2.2.2.1 x.2.1) (fun r => ((), (r, ()))) func251 wcan fun _ => by kernel_rfl)
theorem wazq : wav prog (270, waso) := wac mixed (ww (fdC wann fdN)) wad (wba waso (wab [(234, wajz)]) wbwi noZ [] ((f270.body).getD .skip) (fun x => wasn x.1.1) (fun r => ((r, ()), ())) func270 (wbb (by kernel_rfl) lpN) fun _ => by kernel_rfl)
theorem wazr : wav prog (271, wasq) := wac mixed (ww (fdN)) wad (wba wasq (wab []) wbwj noZ [] ((f271.body).getD .skip) (fun x => wasp x.2.1.1) (fun r => ((r.1, ()), ((r.2, ()), ()))) func271 (wbb (by kernel_rfl) lpN) fun _ => by kernel_rfl)
theorem wbiu : (wabb).OK wbcq tt noZ (wae wbcr) (wo wast 0) := wbh (fun _ => rfl) fun _ _ => by kernel_rfl
theorem wcao : waa wbcq tt noZ wbcr wast := wbb (L := [(0, wo wast 0)]) (by kernel_rfl) (lpC wbiu lpN)
theorem wbpb : wav prog (253, wbcp) := wac mixed (ww (fdC wazq (fdC wazr fdN))) wad (wba wbcp wbcq wbwk noZ wbcr wast (fun x => wasr x.1.2.1 x.1.2.2.1 x.1.2.2.2.1 x.2.1) (fun r => ((), (r, ()))) func253 wcao fun _ => by kernel_rfl)
theorem wbpc : wav prog (286, wbcs) := wac mixed (ww (fdN)) wad (wba wbcs (wab []) wbwl noZ [] ((f286.body).getD .skip) (fun x => wasu x.1.1 x.1.2.1 x.1.2.2.1 x.1.2.2.2.2.1 x.2.1.1) (fun r => ((r.1, (r.2.1, ())), ((r.2.2, ()), ()))) func286 (wbb (by kernel_rfl) lpN) fun _ => by kernel_rfl)
theorem wazs : wav prog (273, wasw) := wac mixed (ww (fdC wbpc fdN)) wad (wba wasw (wab [(286, wbcs)]) wbwm noZ [] ((f273.body).getD .skip) (fun x => wasv x.1.1 x.1.2.1 x.1.2.2.1 x.1.2.2.2.1 x.1.2.2.2.2.2.1 x.2.1.1) (fun r => ((r.1, ()), ((r.2, ()), ()))) func273 (wbb (by kernel_rfl) lpN) fun _ => by kernel_rfl)
theorem wbpd : wav prog (272, wbct) := wac mixed (ww (fdC wazs fdN)) wad (wba wbct (wab [(273, wasw)]) wbwn noZ [] ((f272.body).getD .skip) (fun x => wasx x.1.1 x.1.2.1 x.1.2.2.2.1 x.2.1.1) (fun r => ((r.1, ()), ((r.2, ()), ()))) func272 (wbb (by kernel_rfl) lpN) fun _ => by kernel_rfl)
theorem wbpe : wav prog (254, wbcu) := wac mixed (ww (fdC wbpd (fdC wazs fdN))) wad (wba wbcu (wab [(272, wbct), (273, wasw)]) wbwo noZ [] ((f254.body).getD .skip) (fun x => wasy x.1.1 x.1.2.1 x.1.2.2.1 x.1.2.2.2.1) (fun r => ((r.1, (r.2, ())), ())) func254 (wbb (by kernel_rfl) lpN) fun _ => by kernel_rfl)
theorem wbiv : (wabc).OK wxt tt noZ (wae wxu) (wo wlh 0) := wbh (fun _ => rfl) fun _ _ => by kernel_rfl
theorem wbiw : (wabd).OK wxt tt noZ (wae wxu) (wo wlh 2) := wbh (fun _ => rfl) fun _ _ => by kernel_rfl
theorem wbix : (wabe).OK wxt tt noZ (wae wxu) (wo wlh 6) := wbh (fun _ => rfl) fun _ _ => by kernel_rfl
theorem wbiy : (wabf).OK wxt tt noZ (wae wxu) (wo wlh 8) := wbh (fun _ => rfl) fun _ _ => by kernel_rfl
theorem wbiz : (wabg).OK wxt tt noZ (wae wxu) (wo wlh 4) := wbh (fun _ => rfl) fun _ _ => by kernel_rfl
theorem wcap : waa wxt tt noZ wxu wlh := wbb (L := [(0, wo wlh 0), (2, wo wlh 2), (4, wo wlh 4), (6, wo wlh 6), (8, wo wlh 8)]) (by kernel_rfl) (lpC wbiv (lpC wbiw (lpC wbiz (lpC wbix (lpC wbiy lpN)))))
theorem wbpf : wav prog (258, wbcv) := wac mixed (ww (fdN)) wad (wba wbcv wxt wbwp noZ wxu wlh (fun x => wasz x.1.2.1 x.1.2.2.1 x.1.2.2.2.1 x.1.2.2.2.2.1 x.2.1) (fun r => ((r.1, (r.2.1, ())), (r.2.2, ()))) func258 wcap fun _ => by kernel_rfl)
theorem wbja (rec_ : (Int) → (Int) → (Int) → ((HL [y1, y1] → Option (Int))) → ((List Nat) × Y2) → Option ((List Nat) × Y2)) : (wabh rec_).OK (wbcx rec_) tt noZ (wae (wbcy rec_)) (wo watb 0) := wbh (fun _ => rfl) fun _ _ => by kernel_rfl
theorem wcaq (rec_ : (Int) → (Int) → (Int) → ((HL [y1, y1] → Option (Int))) → ((List Nat) × Y2) → Option ((List Nat) × Y2)) : waa (wbcx rec_) tt noZ (wbcy rec_) watb := wbb (L := [(0, wo watb 0)]) (by kernel_rfl) (lpC (wbja rec_) lpN)
theorem wazt : ∀ n : Nat, wav prog (233, wbcw n)
 | 0 => fun _ _ h => nomatch h
 | n + 1 => wac mixed (ww (fdC wbpa (fdC wbpb (fdC wbpe (fdC wbpf (fdC (wazt n) fdN)))))) wad (wba (wbcw (n + 1)) (wbcx (wrh n)) wbwq noZ (wbcy (wrh n)) watb (fun x => wata (wrh n) x.1.2.1 x.1.2.2.1 x.1.2.2.2.1 x.1.2.2.2.2.1 x.2.1) (fun r => ((), (r, ()))) func233 (wcaq (wrh n)) fun _ => by kernel_rfl)
theorem wazu : wav prog (184, wate) := wac mixed (ww (fdC wann (fdC (wazt 1000000) fdN))) wad (wba wate (wab [(234, wajz), (233, wbcw 1000000)]) wbwr noZ [] ((f184.body).getD .skip) (fun x => watc x.1.2.1 x.2.1) (fun r => ((), (r, ()))) func184 (wbb (by kernel_rfl) lpN) fun _ => by kernel_rfl)
theorem wbpg : wav prog (231, D_zd) := wac mixed (ww (fdN)) wad (wba D_zd (wab []) K_zd noZ [] ((f231.body).getD .skip) (fun x => T_zd x.1.1) (fun r => ((r, ()), ())) func231 (wbb (by kernel_rfl) lpN) fun _ => by kernel_rfl)
theorem wbph : wav prog (182, D_za) := wac mixed (ww (fdC wbpg fdN)) wad (wba D_za (wab [(231, D_zd)]) K_za noZ [] ((f182.body).getD .skip) (fun x => T_za x.1.1 x.1.2.1) (fun r => ((r, ()), ())) func182 (wbb (by kernel_rfl) lpN) fun _ => by kernel_rfl)
theorem wbjb : (wabi).OK wbda tt noZ (wae wbdb) (wo wath 0) := wbh (fun _ => rfl) fun _ _ => by kernel_rfl
theorem wcar : waa wbda tt noZ wbdb wath := wbb (L := [(0, wo wath 0)]) (by kernel_rfl) (lpC wbjb lpN)
theorem wbpi : wav prog (235, wbcz) := wac mixed (ww (fdC wbph fdN)) wad (wba wbcz wbda wbws noZ wbdb wath (fun x => watf x.1.1 x.1.2.1) (fun r => ((r, ()), ())) func235 wcar fun _ => by kernel_rfl)
theorem wbpj : (wakf).OK E_zc tt noZ (wae O_zc) (wo C_zc 0) := wbh (fun _ => rfl) fun _ _ => by kernel_rfl
theorem o_zc : waa E_zc tt noZ O_zc C_zc := wbb (L := [(0, wo C_zc 0)]) (by kernel_rfl) (lpC wbpj lpN)
theorem wcas : wav prog (181, D_zc) := wac mixed (ww (fdN)) wad (wba D_zc E_zc K_zc noZ O_zc C_zc (fun x => T_zc x.1.1) (fun r => ((r, ()), ())) func181 o_zc fun _ => by kernel_rfl)
theorem wcat : wav prog (185, D_zu) := wac mixed (ww (fdC wbph (fdC wbpi (fdC wcas fdN)))) wad (wba D_zu (wab [(182, D_za), (235, wbcz), (181, D_zc)]) K_zu noZ [] ((f185.body).getD .skip) (fun x => T_zu x.1.1 x.1.2.1) (fun r => ((r, ()), ())) func185 (wbb (by kernel_rfl) lpN) fun _ => by kernel_rfl)
theorem wbjc : (wabk).OK wbde tt wbdd (wae wbdf) (wo watj 0) := wbh (fun _ => rfl) fun _ _ => by kernel_rfl
theorem wcau : waa wbde tt wbdd wbdf watj := wbb (L := [(0, wo watj 0)]) (by kernel_rfl) (lpC wbjc lpN)
theorem wbpk : wav prog (91, wbdc) := wac mixed (ww (fdC wcam (fdC wazu (fdC wazu (fdC wcat fdN))))) wad (wba wbdc wbde wbwx wbdd wbdf watj (fun x => wati x.1.1) (fun r => (((), ()), (r, ()))) func91 wcau fun _ => by kernel_rfl)
theorem wbjd : (wabl).OK wbdh tt noZ (wae wbdi) (wo watk 0) := wbh (fun _ => rfl) fun _ _ => by kernel_rfl
theorem wcav : waa wbdh tt noZ wbdi watk := wbb (L := [(0, wo watk 0)]) (by kernel_rfl) (lpC wbjd lpN)
theorem wano : wav prog (131, wakj) := wac mixed (ww (fdN)) wad (wba wakj wbdh wbwy noZ wbdi watk (fun x => wbdg x.1.1 x.1.2.1) (fun r => ((r, ()), ())) func131 wcav fun _ => by kernel_rfl)
theorem wbje : (wabm).OK wbdk tt noZ (wae wbdl) (wo watn 0) := wbh (fun _ => rfl) fun _ _ => by kernel_rfl
theorem wcaw : waa wbdk tt noZ wbdl watn := wbb (L := [(0, wo watn 0)]) (by kernel_rfl) (lpC wbje lpN)
theorem wazv : wav prog (90, watm) := wac mixed (ww (fdC wano fdN)) wad (wba watm wbdk wbwz noZ wbdl watn (fun x => wbdj x.1.2.1 x.2.1) (fun r => (((), ()), (r, ()))) func90 wcaw fun _ => by kernel_rfl)
theorem wbpl : wav prog (198, wbdn) := wac mixed (ww (fdN)) wad (wba wbdn (wab []) wbxa noZ [] ((f198.body).getD .skip) (fun x => wbdm x.1.1 x.1.2.1.1) (fun r => ((r, ()), ())) func198 (wbb (by kernel_rfl) lpN) fun _ => by kernel_rfl)
theorem wazw : wav prog (105, wato) := wac mixed (ww (fdC wbpk (fdC wazv (fdC wazv (fdC wbpl fdN))))) wad (wba wato (wab [(91, wbdc), (90, watm), (90, watm), (198, wbdn)]) wbxb noZ [] ((f105.body).getD .skip) (fun x => wbdo x.1.1 x.1.2.1) (fun r => (((), ()), (r, ()))) func105 (wbb (by kernel_rfl) lpN) fun _ => by kernel_rfl)
theorem wbjf : (wabn).OK wbdq tt noZ (wae wbdr) (wo watp 0) := wbh (fun _ => rfl) fun _ _ => by kernel_rfl
theorem wcax : waa wbdq tt noZ wbdr watp := wbb (L := [(0, wo watp 0)]) (by kernel_rfl) (lpC wbjf lpN)
theorem wadr : wav prog (94, wafr) := wac mixed (ww (fdN)) wad (wba wafr wbdq wbxc noZ wbdr watp (fun x => wbdp x.1.2.1 x.2.1) (fun r => (((), ()), (r, ()))) func94 wcax fun _ => by kernel_rfl)
theorem wbpm : (wakp).OK E_zv tt noZ (wae O_zv) (wo C_zv 2) := wbh (fun _ => rfl) fun _ _ => by kernel_rfl
theorem wbpn : (wakq).OK E_zv tt noZ (wae O_zv) (wo C_zv 0) := wbh (fun _ => rfl) fun _ _ => by kernel_rfl
theorem o_zv : waa E_zv tt noZ O_zv C_zv := wbb (L := [(0, wo C_zv 0), (2, wo C_zv 2)]) (by kernel_rfl) (lpC wbpn (lpC wbpm lpN))
theorem wbjg : wav prog (107, D_zv) := wac mixed (ww (fdN)) wad (wba D_zv E_zv K_zv noZ O_zv C_zv (fun x => T_zv x.1.1 x.1.2.1) (fun r => ((r, ()), ())) func107 o_zv fun _ => by kernel_rfl)
theorem wcay : wav prog (106, D_zf) := wac mixed (ww (fdC wbjg fdN)) wad (wba D_zf (wab [(107, D_zv)]) K_zf noZ [] ((f106.body).getD .skip) (fun x => T_zf x.1.1 x.1.2.1.1) (fun r => ((r, ()), ())) func106 (wbb (by kernel_rfl) lpN) fun _ => by kernel_rfl)
theorem wcaz : wav prog (24, D_ze) := wac mixed (ww (fdC wyp (fdC wage (fdC wazw (fdC wadr (fdC wadr (fdC wcay fdN))))))) wad (wba D_ze (wab [(30, D_zj), (104, D_zt), (105, wato), (94, wafr), (94, wafr), (106, D_zf)]) K_ze noZ [] ((f24.body).getD .skip) (fun x => T_ze x.1.1 x.1.2.1) (fun r => (((), (r.1, ())), (r.2, ()))) func24 (wbb (by kernel_rfl) lpN) fun _ => by kernel_rfl)
theorem wvk : wav prog (130, wxy) := wac mixed (ww (fdN)) wad (wba wxy (wab []) wbxi noZ [] ((f130.body).getD .skip) (fun x => wbds x.1.1 x.1.2.1 x.1.2.2.1) (fun r => ((r, ()), ())) func130 (wbb (by kernel_rfl) lpN) fun _ => by kernel_rfl)
theorem wbjh : (wabo).OK wbdv tt noZ (wae wbdw) (wo watr 0) := wbh (fun _ => rfl) fun _ _ => by kernel_rfl
theorem wcba : waa wbdv tt noZ wbdw watr := wbb (L := [(0, wo watr 0)]) (by kernel_rfl) (lpC wbjh lpN)
theorem wbpo : wav prog (200, wbdu) := wac mixed (ww (fdC wvk fdN)) wad (wba wbdu wbdv wbxj noZ wbdw watr (fun x => wbdt x.1.1 x.1.2.1 x.1.2.2.1) (fun r => ((r, ()), ())) func200 wcba fun _ => by kernel_rfl)
theorem wbji : (wabp).OK wats tt noZ (wae watt) (wo wafs 2) := wbh (fun _ => rfl) fun _ _ => by kernel_rfl
theorem wbjj : (wabq).OK wats tt noZ (wae watt) (wo wafs 0) := wbh (fun _ => rfl) fun _ _ => by kernel_rfl
theorem wcbb : waa wats tt noZ watt wafs := wbb (L := [(0, wo wafs 0), (2, wo wafs 2)]) (by kernel_rfl) (lpC wbjj (lpC wbji lpN))
theorem wvl : wav prog (114, wxz) := wac mixed (ww (fdC wbpo fdN)) wad (wba wxz wats wbxk noZ watt wafs (fun x => wbdx x.1.1) (fun r => ((r, ()), ())) func114 wcbb fun _ => by kernel_rfl)
theorem wazx : wav prog (108, watu) := wac mixed (ww (fdC wvl (fdC wvk fdN))) wad (wba watu (wab [(114, wxz), (130, wxy)]) wbxl noZ [] ((f108.body).getD .skip) (fun x => wbdy x.1.1 x.1.2.1) (fun r => ((r, ()), ())) func108 (wbb (by kernel_rfl) lpN) fun _ => by kernel_rfl)
theorem wbjk : (wabr).OK wbdz tt noZ (wae wbea) (wo watw 0) := wbh (fun _ => rfl) fun _ _ => by kernel_rfl
theorem wcbc : waa wbdz tt noZ wbea watw := wbb (L := [(0, wo watw 0)]) (by kernel_rfl) (lpC wbjk lpN)
theorem wazy : wav prog (119, watv) := wac mixed (ww (fdN)) wad (wba watv wbdz wbxm noZ wbea watw (fun x => wakv x.1.1 x.1.2.1) (fun r => (((), ()), (r, ()))) func119 wcbc fun _ => by kernel_rfl)
theorem wbjl : (wabs).OK wbec tt noZ (wae wbed) (wo watz 0) := wbh (fun _ => rfl) fun _ _ => by kernel_rfl
theorem wcbd : waa wbec tt noZ wbed watz := wbb (L := [(0, wo watz 0)]) (by kernel_rfl) (lpC wbjl lpN)
theorem wbpp : wav prog (189, wbeb) := wac mixed (ww (fdN)) wad (wba wbeb wbec wbxn noZ wbed watz (fun x => watx x.1.1 x.1.2.1) (fun r => ((r, ()), ())) func189 wcbd fun _ => by kernel_rfl)
theorem wbjm : (wabt).OK wauc tt waub (wae waud) (wo waft 2) := wbh (fun _ => rfl) fun _ _ => by kernel_rfl
theorem wbjn : (wabu).OK wauc tt waub (wae waud) (wo waft 0) := wbh (fun _ => rfl) fun _ _ => by kernel_rfl
theorem wcbe : waa wauc tt waub waud waft := wbb (L := [(0, wo waft 0), (2, wo waft 2)]) (by kernel_rfl) (lpC wbjn (lpC wbjm lpN))
theorem wbpq : wav prog (96, wbee) := wac mixed (ww (fdC wazy (fdC wbpp fdN))) wad (wba wbee wauc wbxo waub waud waft (fun x => waua x.1.1) (fun r => ((r, ()), ())) func96 wcbe fun _ => by kernel_rfl)
theorem wbjo : (wabv).OK wauf tt noZ (wae waug) (wo wafv 2) := wbh (fun _ => rfl) fun _ _ => by kernel_rfl
theorem wbjp : (wabw).OK wauf tt noZ (wae waug) (wo wafv 0) := wbh (fun _ => rfl) fun _ _ => by kernel_rfl
theorem wcbf : waa wauf tt noZ waug wafv := wbb (L := [(0, wo wafv 0), (2, wo wafv 2)]) (by kernel_rfl) (lpC wbjp (lpC wbjo lpN))
theorem wazz : wav prog (109, waue) := wac mixed (ww (fdC wanl fdN)) wad (wba waue wauf wbxp noZ waug wafv (fun x => wbef x.1.1 x.1.2.1) (fun r => ((r, ()), ())) func109 wcbf fun _ => by kernel_rfl)
theorem wbjq : (wabx).OK wbei tt noZ (wae wbej) (wo waui 0) := wbh (fun _ => rfl) fun _ _ => by kernel_rfl
theorem wcbg : waa wbei tt noZ wbej waui := wbb (L := [(0, wo waui 0)]) (by kernel_rfl) (lpC wbjq lpN)
theorem wbpr : wav prog (25, wbeh) := wac mixed (ww (fdC wazx (fdC wbpq (fdC wazz fdN)))) wad (wba wbeh wbei wbxq noZ wbej waui (fun x => wbeg x.1.1 x.1.2.1) (fun r => ((r.1, (r.2, ())), ())) func25 wcbg fun _ => by kernel_rfl)
theorem wbjr : (waby).OK wbel tt noZ (wae wbem) (wo wauk 0) := wbh (fun _ => rfl) fun _ _ => by kernel_rfl
theorem wcbh : waa wbel tt noZ wbem wauk := wbb (L := [(0, wo wauk 0)]) (by kernel_rfl) (lpC wbjr lpN)
theorem wbaa : wav prog (19, wauj) := wac mixed (ww (fdN)) wad (wba wauj wbel wbxr noZ wbem wauk (fun x => wbek x.1.1 x.1.2.1) (fun r => ((r, ()), ())) func19 wcbh fun _ => by kernel_rfl)
theorem wcbi : wav prog (110, D_zi) := wac mixed (ww (fdC wbjg fdN)) wad (wba D_zi (wab [(107, D_zv)]) K_zi noZ [] ((f110.body).getD .skip) (fun x => T_zi x.1.1 x.1.2.1.1) (fun r => ((r, ()), ())) func110 (wbb (by kernel_rfl) lpN) fun _ => by kernel_rfl)
theorem wbjs : (wabz).OK wbeq tt noZ (wae wber) (wo waul 0) := wbh (fun _ => rfl) fun _ _ => by kernel_rfl
theorem wcbj : waa wbeq tt noZ wber waul := wbb (L := [(0, wo waul 0)]) (by kernel_rfl) (lpC wbjs lpN)
theorem wbps : wav prog (199, wbep) := wac mixed (ww (fdN)) wad (wba wbep wbeq wbxu noZ wber waul (fun x => wben x.1.1 x.1.2.1) (fun r => ((r, ()), ())) func199 wcbj fun _ => by kernel_rfl)
theorem wbpt : wav prog (111, wbet) := wac mixed (ww (fdC wbps fdN)) wad (wba wbet (wab [(199, wbep)]) wbxv noZ [] ((f111.body).getD .skip) (fun x => wbes x.1.1 x.1.2.1) (fun r => ((r, ()), ())) func111 (wbb (by kernel_rfl) lpN) fun _ => by kernel_rfl)
theorem wbpu : (walc).OK E_zh tt noZ (wae O_zh) (wo C_zh 4) := wbh (fun _ => rfl) fun _ _ => by kernel_rfl
theorem wbpv : (wald).OK E_zh tt noZ (wae O_zh) (wo C_zh 2) := wbh (fun _ => rfl) fun _ _ => by kernel_rfl
theorem wbpw : (wale).OK E_zh tt noZ (wae O_zh) (wo C_zh 0) := wbh (fun _ => rfl) fun _ _ => by kernel_rfl
theorem o_zh : waa E_zh tt noZ O_zh C_zh := wbb (L := [(0, wo C_zh 0), (2, wo C_zh 2), (4, wo C_zh 4)]) (by kernel_rfl) (lpC wbpw (lpC wbpv (lpC wbpu lpN)))
theorem wcbk : wav prog (26, D_zh) := wac mixed (ww (fdC wyp (fdC wage (fdC wazw (fdC wadr (fdC wbpt (fdC wadr (fdC wcbi fdN)))))))) wad (wba D_zh E_zh K_zh noZ O_zh C_zh (fun x => T_zh x.1.1 x.1.2.1) (fun r => (((), (r.1, ())), (r.2, ()))) func26 o_zh fun _ => by kernel_rfl)
theorem wbjt : (waca).OK wbeu tt noZ (wae wbev) (wo waup 0) := wbh (fun _ => rfl) fun _ _ => by kernel_rfl
theorem wcbl : waa wbeu tt noZ wbev waup := wbb (L := [(0, wo waup 0)]) (by kernel_rfl) (lpC wbjt lpN)
theorem wbab : wav prog (112, wauo) := wac mixed (ww (fdN)) wad (wba wauo wbeu wbxy noZ wbev waup (fun x => waun x.1.1 x.1.2.1) (fun r => ((r, ()), ())) func112 wcbl fun _ => by kernel_rfl)
theorem wbju : (wacb).OK wbey tt noZ (wae wbez) (wo wauq 0) := wbh (fun _ => rfl) fun _ _ => by kernel_rfl
theorem wcbm : waa wbey tt noZ wbez wauq := wbb (L := [(0, wo wauq 0)]) (by kernel_rfl) (lpC wbju lpN)
theorem wbpx : wav prog (113, wbex) := wac mixed (ww (fdC wanl fdN)) wad (wba wbex wbey wbxz noZ wbez wauq (fun x => wbew x.1.1 x.1.2.1 x.1.2.2.1) (fun r => ((r, ()), ())) func113 wcbm fun _ => by kernel_rfl)
theorem wbjv : (wacc).OK wafx tt noZ (wae wafy) (wo wox 2) := wbh (fun _ => rfl) fun _ _ => by kernel_rfl
theorem wbjw : (wacd).OK wafx tt noZ (wae wafy) (wo wox 0) := wbh (fun _ => rfl) fun _ _ => by kernel_rfl
theorem wbjx : (wace).OK wafx tt noZ (wae wafy) (wo wox 6) := wbh (fun _ => rfl) fun _ _ => by kernel_rfl
theorem wbjy : (wacf).OK wafx tt noZ (wae wafy) (wo wox 4) := wbh (fun _ => rfl) fun _ _ => by kernel_rfl
theorem wcbn : waa wafx tt noZ wafy wox := wbb (L := [(0, wo wox 0), (2, wo wox 2), (4, wo wox 4), (6, wo wox 6)]) (by kernel_rfl) (lpC wbjw (lpC wbjv (lpC wbjy (lpC wbjx lpN))))
theorem wbpy : wav prog (27, wbfb) := wac mixed (ww (fdC wazx (fdC wbab (fdC wbpx fdN)))) wad (wba wbfb wafx wbya noZ wafy wox (fun x => wbfa x.1.1 x.1.2.1) (fun r => (((), (r.1, ())), (r.2, ()))) func27 wcbn fun _ => by kernel_rfl)
theorem wbpz : (walm).OK E_zk tt noZ (wae O_zk) (wo C_zk 4) := wbh (fun _ => rfl) fun _ _ => by kernel_rfl
theorem wbqa : (waln).OK E_zk tt noZ (wae O_zk) (wo C_zk 2) := wbh (fun _ => rfl) fun _ _ => by kernel_rfl
theorem wbqb : (walo).OK E_zk tt noZ (wae O_zk) (wo C_zk 0) := wbh (fun _ => rfl) fun _ _ => by kernel_rfl
theorem o_zk : waa E_zk tt noZ O_zk C_zk := wbb (L := [(0, wo C_zk 0), (2, wo C_zk 2), (4, wo C_zk 4)]) (by kernel_rfl) (lpC wbqb (lpC wbqa (lpC wbpz lpN)))
theorem wcbo : wav prog (28, D_zk) := wac mixed (ww (fdC wyp fdN)) wad (wba D_zk E_zk K_zk noZ O_zk C_zk (fun x => T_zk x.1.1) (fun r => ((r.1, (r.2, ())), ())) func28 o_zk fun _ => by kernel_rfl)
theorem wbjz : (wacg).OK wals tt noZ (wae walt) (wo wvd 4) := wbh (fun _ => rfl) fun _ _ => by kernel_rfl
theorem wbka : (wach).OK wals tt noZ (wae walt) (wo wvd 2) := wbh (fun _ => rfl) fun _ _ => by kernel_rfl
theorem wbkb : (waci).OK wals tt noZ (wae walt) (wo wvd 0) := wbh (fun _ => rfl) fun _ _ => by kernel_rfl
theorem wcbp : waa wals tt noZ walt wvd := wbb (L := [(0, wo wvd 0), (2, wo wvd 2), (4, wo wvd 4)]) (by kernel_rfl) (lpC wbkb (lpC wbka (lpC wbjz lpN)))
theorem wbqc : wav prog (115, wbfd) := wac mixed (ww (fdN)) wad (wba wbfd wals wbyd noZ walt wvd (fun x => wbfc x.1.1) (fun r => ((r, ()), ())) func115 wcbp fun _ => by kernel_rfl)
theorem wbqd : wav prog (29, wbff) := wac mixed (ww (fdC wvl (fdC wbqc fdN))) wad (wba wbff (wab [(114, wxz), (115, wbfd)]) wbye noZ [] ((f29.body).getD .skip) (fun x => wbfe x.1.1) (fun r => ((r.1, (r.2, ())), ())) func29 (wbb (by kernel_rfl) lpN) fun _ => by kernel_rfl)
theorem wbqe : (walu).OK E_zz tt noZ (wae O_zz) (wo C_zz 0) := wbh (fun _ => rfl) fun _ _ => by kernel_rfl
theorem o_zz : waa E_zz tt noZ O_zz C_zz := wbb (L := [(0, wo C_zz 0)]) (by kernel_rfl) (lpC wbqe lpN)
theorem wbqf : wav prog (117, D_zz) := wac mixed (ww (fdC wage fdN)) wad (wba D_zz E_zz K_zz noZ O_zz C_zz (fun x => T_zz x.1.1 x.1.2.1) (fun r => ((r, ()), ())) func117 o_zz fun _ => by kernel_rfl)
theorem wcbq : wav prog (31, D_zg) := wac mixed (ww (fdC wyp (fdC wbqf (fdC wbjg fdN)))) wad (wba D_zg (wab [(30, D_zj), (117, D_zz), (107, D_zv)]) K_zg noZ [] ((f31.body).getD .skip) (fun x => T_zg x.1.1 x.1.2.1) (fun r => ((r.1, (r.2, ())), ())) func31 (wbb (by kernel_rfl) lpN) fun _ => by kernel_rfl)
theorem wbkc : (wacj).OK wbfi tt noZ (wae wbfj) (wo wauv 0) := wbh (fun _ => rfl) fun _ _ => by kernel_rfl
theorem wcbr : waa wbfi tt noZ wbfj wauv := wbb (L := [(0, wo wauv 0)]) (by kernel_rfl) (lpC wbkc lpN)
theorem wbqg : wav prog (118, wbfh) := wac mixed (ww (fdN)) wad (wba wbfh wbfi wbyk noZ wbfj wauv (fun x => wbfg x.1.1 x.1.2.1) (fun r => ((r, ()), ())) func118 wcbr fun _ => by kernel_rfl)
theorem wbkd : (wack).OK wbfm tt noZ (wae wbfn) (wo waux 0) := wbh (fun _ => rfl) fun _ _ => by kernel_rfl
theorem wcbs : waa wbfm tt noZ wbfn waux := wbb (L := [(0, wo waux 0)]) (by kernel_rfl) (lpC wbkd lpN)
theorem wbqh : wav prog (32, wbfl) := wac mixed (ww (fdC wbqg fdN)) wad (wba wbfl wbfm wbyl noZ wbfn waux (fun x => wbfk x.1.1) (fun r => (((), ()), (r, ()))) func32 wcbs fun _ => by kernel_rfl)
theorem wbqi : wav prog (33, wbfp) := wac mixed (ww (fdC wanm (fdC wvj (fdC wazy (fdC wazp (fdC wadq fdN)))))) wad (wba wbfp (wab [(103, wajs), (120, wxi), (119, watv), (121, warz), (83, wafj)]) wbym wbyn [] ((f33.body).getD .skip) (fun x => wbfo x.1.1) (fun r => (((), ((), ())), (r.1, (r.2, ())))) func33 (wbb (by kernel_rfl) lpN) fun _ => by kernel_rfl)
theorem wbke : (wacl).OK wbfs tt noZ (wae wbft) (wo wauz 0) := wbh (fun _ => rfl) fun _ _ => by kernel_rfl
theorem wcbt : waa wbfs tt noZ wbft wauz := wbb (L := [(0, wo wauz 0)]) (by kernel_rfl) (lpC wbke lpN)
theorem wbqj : wav prog (122, wbfr) := wac mixed (ww (fdC wvk fdN)) wad (wba wbfr wbfs wbyo noZ wbft wauz (fun x => wbfq x.1.1 x.1.2.1 x.1.2.2.1) (fun r => ((r, ()), ())) func122 wcbt fun _ => by kernel_rfl)
theorem wbqk : wav prog (34, wbfv) := wac mixed (ww (fdC wvl (fdC wbqj (fdC wazz fdN)))) wad (wba wbfv (wab [(114, wxz), (122, wbfr), (109, waue)]) wbyp noZ [] ((f34.body).getD .skip) (fun x => wbfu x.1.1 x.1.2.1) (fun r => ((r.1, (r.2, ())), ())) func34 (wbb (by kernel_rfl) lpN) fun _ => by kernel_rfl)
theorem wbql : wav prog (123, wbfx) := wac mixed (ww (fdC wadq fdN)) wad (wba wbfx (wab [(83, wafj)]) wbyq wbyr [] ((f123.body).getD .skip) (fun x => wbfw x.2.1.1 x.2.1.2.1 x.2.1.2.2.1) (fun r => ((r.1, ()), ((r.2.1, (r.2.2.1, (r.2.2.2, ()))), ()))) func123 (wbb (by kernel_rfl) lpN) fun _ => by kernel_rfl)
theorem wbac : wav prog (129, wavc) := wac mixed (ww (fdC wvk fdN)) wad (wba wavc (wab [(130, wxy)]) wbys noZ [] ((f129.body).getD .skip) (fun x => wavb x.1.1) (fun r => ((r, ()), ())) func129 (wbb (by kernel_rfl) lpN) fun _ => by kernel_rfl)
theorem wbkf : (wacm).OK wamc tt wamb (wae wamd) (wo wve 4) := wbh (fun _ => rfl) fun _ _ => by kernel_rfl
theorem wbkg : (wacn).OK wamc tt wamb (wae wamd) (wo wve 2) := wbh (fun _ => rfl) fun _ _ => by kernel_rfl
theorem wbkh : (waco).OK wamc tt wamb (wae wamd) (wo wve 0) := wbh (fun _ => rfl) fun _ _ => by kernel_rfl
theorem wcbu : waa wamc tt wamb wamd wve := wbb (L := [(0, wo wve 0), (2, wo wve 2), (4, wo wve 4)]) (by kernel_rfl) (lpC wbkh (lpC wbkg (lpC wbkf lpN)))
theorem wbad : wav prog (39, wavd) := wac mixed (ww (fdC wvl (fdC wbac fdN))) wad (wba wavd wamc wbyt wamb wamd wve (fun x => wbfy x.1.1 x.1.2.1) (fun r => (((), (r.1, ())), (r.2, ()))) func39 wcbu fun _ => by kernel_rfl)
theorem wbqm : wav prog (35, wbga) := wac mixed (ww (fdC wanm (fdC wbql (fdC wbad (fdC wvj fdN))))) wad (wba wbga (wab [(103, wajs), (123, wbfx), (39, wavd), (120, wxi)]) wbyu wbyv [] ((f35.body).getD .skip) (fun x => wbfz x.1.1) (fun r => (((), ((), (r.1, ()))), (r.2.1, (r.2.2, ())))) func35 (wbb (by kernel_rfl) lpN) fun _ => by kernel_rfl)
theorem wbqn : wav prog (205, wbgc) := wac mixed (ww (fdN)) wad (wba wbgc (wab []) wbyw noZ [] ((f205.body).getD .skip) (fun x => wbgb x.1.2.1) (fun r => (((), ()), (r, ()))) func205 (wbb (by kernel_rfl) lpN) fun _ => by kernel_rfl)
theorem wbki : (wacp).OK wavg tt noZ (wae wavh) (wo wafz 0) := wbh (fun _ => rfl) fun _ _ => by kernel_rfl
theorem wbkj : (wacq).OK wavg tt noZ (wae wavh) (wo wafz 2) := wbh (fun _ => rfl) fun _ _ => by kernel_rfl
theorem wcbv : waa wavg tt noZ wavh wafz := wbb (L := [(0, wo wafz 0), (2, wo wafz 2)]) (by kernel_rfl) (lpC wbki (lpC wbkj lpN))
theorem wbqo : wav prog (125, wbge) := wac mixed (ww (fdC wbqn fdN)) wad (wba wbge wavg wbyx noZ wavh wafz (fun x => wbgd x.1.1) (fun r => (((), ()), (r, ()))) func125 wcbv fun _ => by kernel_rfl)
theorem wbqp : wav prog (204, wbny) := wxh
theorem wbqq : wav prog (240, wboa) := wum
theorem wyq : wav prog (281, D_zb) := wac mixed (ww (fdC wbpg fdN)) wad (wba D_zb (wab [(231, D_zd)]) K_zb noZ [] ((f281.body).getD .skip) (fun x => T_zb x.1.1 x.1.2.1) (fun r => ((r, ()), ())) func281 (wbb (by kernel_rfl) lpN) fun _ => by kernel_rfl)
theorem wbkk : (wacr).OK wavj tt noZ (wae wavk) (wo waga 2) := wbh (fun _ => rfl) fun _ _ => by kernel_rfl
theorem wbkl : (wacs).OK wavj tt noZ (wae wavk) (wo waga 0) := wbh (fun _ => rfl) fun _ _ => by kernel_rfl
theorem wcbw : waa wavj tt noZ wavk waga := wbb (L := [(0, wo waga 0), (2, wo waga 2)]) (by kernel_rfl) (lpC wbkl (lpC wbkk lpN))
theorem wbqr : wav prog (275, wbgg) := wac mixed (ww (fdC wyq fdN)) wad (wba wbgg wavj wbyz noZ wavk waga (fun x => wbgf x.1.2.1 x.1.2.2.1 x.2.1) (fun r => ((), (r, ()))) func275 wcbw fun _ => by kernel_rfl)
theorem wbkm : (wact).OK wbgk tt noZ (wae wbgl) (wo wavl 0) := wbh (fun _ => rfl) fun _ _ => by kernel_rfl
theorem wcbx : waa wbgk tt noZ wbgl wavl := wbb (L := [(0, wo wavl 0)]) (by kernel_rfl) (lpC wbkm lpN)
theorem wbqs : wav prog (287, wbgj) := wac mixed (ww (fdC wyq fdN)) wad (wba wbgj wbgk wbza noZ wbgl wavl (fun x => wbob x.1.2.1 x.1.2.2.1 x.1.2.2.2.1 x.2.1) (fun r => ((), (r, ()))) func287 wcbx fun _ => by kernel_rfl)
theorem wbkn : (wacu).OK wavm tt noZ (wae wavn) (wo wagb 0) := wbh (fun _ => rfl) fun _ _ => by kernel_rfl
theorem wbko : (wacv).OK wavm tt noZ (wae wavn) (wo wagb 2) := wbh (fun _ => rfl) fun _ _ => by kernel_rfl
theorem wcby : waa wavm tt noZ wavn wagb := wbb (L := [(0, wo wagb 0), (2, wo wagb 2)]) (by kernel_rfl) (lpC wbkn (lpC wbko lpN))
theorem wbqt : wav prog (276, wbgo) := wac mixed (ww (fdC wbqs fdN)) wad (wba wbgo wavm wbzb noZ wavn wagb (fun x => wboc x.1.2.1 x.1.2.2.1 x.2.1) (fun r => ((), (r, ()))) func276 wcby fun _ => by kernel_rfl)
theorem wbkp : (wacw).OK wbgr tt noZ (wae wbgs) (wo wavo 0) := wbh (fun _ => rfl) fun _ _ => by kernel_rfl
theorem wcbz : waa wbgr tt noZ wbgs wavo := wbb (L := [(0, wo wavo 0)]) (by kernel_rfl) (lpC wbkp lpN)
theorem wbqu : wav prog (277, wbgq) := wac mixed (ww (fdC wazq (fdC wazr fdN))) wad (wba wbgq wbgr wbzc noZ wbgs wavo (fun x => wboe x.1.2.1 x.1.2.2.1 x.2.1) (fun r => ((), (r, ()))) func277 wcbz fun _ => by kernel_rfl)
theorem wbqv : wav prog (291, wbgt) := wac mixed (ww (fdC wyq fdN)) wad (wba wbgt (wab [(281, D_zb)]) wbzd noZ [] ((f291.body).getD .skip) (fun x => wbog x.1.1 x.1.2.1 x.1.2.2.1 x.2.1.1) (fun r => ((r.1, (r.2.1, ())), ((r.2.2, ()), ()))) func291 (wbb (by kernel_rfl) lpN) fun _ => by kernel_rfl)
theorem wbae : wav prog (289, wavr) := wac mixed (ww (fdC wbqv fdN)) wad (wba wavr (wab [(291, wbgt)]) wbze noZ [] ((f289.body).getD .skip) (fun x => wboh x.1.1 x.1.2.1 x.1.2.2.1 x.1.2.2.2.1 x.2.1.1) (fun r => ((r.1, ()), ((r.2, ()), ()))) func289 (wbb (by kernel_rfl) lpN) fun _ => by kernel_rfl)
theorem wbqw : wav prog (288, wbgu) := wac mixed (ww (fdC wbae fdN)) wad (wba wbgu (wab [(289, wavr)]) wbzf noZ [] ((f288.body).getD .skip) (fun x => wboi x.1.1 x.1.2.1 x.2.1.1) (fun r => ((r.1, ()), ((r.2, ()), ()))) func288 (wbb (by kernel_rfl) lpN) fun _ => by kernel_rfl)
theorem wbqx : wav prog (278, wbgw) := wac mixed (ww (fdC wbqw (fdC wbae fdN))) wad (wba wbgw (wab [(288, wbgu), (289, wavr)]) wbzg noZ [] ((f278.body).getD .skip) (fun x => wboj x.1.1 x.1.2.1 x.1.2.2.1) (fun r => ((r.1, (r.2, ())), ())) func278 (wbb (by kernel_rfl) lpN) fun _ => by kernel_rfl)
theorem wbkq : (wacx).OK wbha tt noZ (wae wbhb) (wo wavt 0) := wbh (fun _ => rfl) fun _ _ => by kernel_rfl
theorem wcca : waa wbha tt noZ wbhb wavt := wbb (L := [(0, wo wavt 0)]) (by kernel_rfl) (lpC wbkq lpN)
theorem wbqy : wav prog (279, wbgz) := wac mixed (ww (fdN)) wad (wba wbgz wbha wbzh noZ wbhb wavt (fun x => wbok x.1.2.1 x.1.2.2.1 x.2.1) (fun r => ((), (r, ()))) func279 wcca fun _ => by kernel_rfl)
theorem wbkr : (wacy).OK wagc tt noZ (wae wagd) (wo woy 2) := wbh (fun _ => rfl) fun _ _ => by kernel_rfl
theorem wbks : (wacz).OK wagc tt noZ (wae wagd) (wo woy 4) := wbh (fun _ => rfl) fun _ _ => by kernel_rfl
theorem wbkt : (wada).OK wagc tt noZ (wae wagd) (wo woy 6) := wbh (fun _ => rfl) fun _ _ => by kernel_rfl
theorem wbku : (wadb).OK wagc tt noZ (wae wagd) (wo woy 0) := wbh (fun _ => rfl) fun _ _ => by kernel_rfl
theorem wccb : waa wagc tt noZ wagd woy := wbb (L := [(0, wo woy 0), (2, wo woy 2), (4, wo woy 4), (6, wo woy 6)]) (by kernel_rfl) (lpC wbku (lpC wbkr (lpC wbks (lpC wbkt lpN))))
theorem wbqz : wav prog (280, wbhf) := wac mixed (ww (fdC wyq fdN)) wad (wba wbhf wagc wbzi noZ wagd woy (fun x => wbol x.1.2.1 x.1.2.2.1 x.2.1) (fun r => ((r.1, ()), (r.2, ()))) func280 wccb fun _ => by kernel_rfl)
theorem wbkv : (wadc).OK wamw tt noZ (wae wamx) (wo wvf 2) := wbh (fun _ => rfl) fun _ _ => by kernel_rfl
theorem wbkw : (wadd).OK wamw tt noZ (wae wamx) (wo wvf 4) := wbh (fun _ => rfl) fun _ _ => by kernel_rfl
theorem wbkx : (wade).OK wamw tt noZ (wae wamx) (wo wvf 0) := wbh (fun _ => rfl) fun _ _ => by kernel_rfl
theorem wccc : waa wamw tt noZ wamx wvf := wbb (L := [(0, wo wvf 0), (2, wo wvf 2), (4, wo wvf 4)]) (by kernel_rfl) (lpC wbkx (lpC wbkv (lpC wbkw lpN)))
theorem wbra : wav prog (282, wbhj) := wac mixed (ww (fdC wyq fdN)) wad (wba wbhj wamw wbzj noZ wamx wvf (fun x => wbom x.1.2.1 x.1.2.2.1 x.1.2.2.2.1 x.2.1) (fun r => ((r.1, ()), (r.2, ()))) func282 wccc fun _ => by kernel_rfl)
theorem wbky : (wadf).OK wyl tt noZ (wae wym) (wo wli 0) := wbh (fun _ => rfl) fun _ _ => by kernel_rfl
theorem wbkz : (wadg).OK wyl tt noZ (wae wym) (wo wli 2) := wbh (fun _ => rfl) fun _ _ => by kernel_rfl
theorem wbla : (wadh).OK wyl tt noZ (wae wym) (wo wli 6) := wbh (fun _ => rfl) fun _ _ => by kernel_rfl
theorem wblb : (wadi).OK wyl tt noZ (wae wym) (wo wli 8) := wbh (fun _ => rfl) fun _ _ => by kernel_rfl
theorem wblc : (wadj).OK wyl tt noZ (wae wym) (wo wli 4) := wbh (fun _ => rfl) fun _ _ => by kernel_rfl
theorem wccd : waa wyl tt noZ wym wli := wbb (L := [(0, wo wli 0), (2, wo wli 2), (4, wo wli 4), (6, wo wli 6), (8, wo wli 8)]) (by kernel_rfl) (lpC wbky (lpC wbkz (lpC wblc (lpC wbla (lpC wblb lpN)))))
theorem wbrb : wav prog (283, wbhp) := wac mixed (ww (fdC wyq fdN)) wad (wba wbhp wyl wbzk noZ wym wli (fun x => wbon x.1.2.1 x.1.2.2.1 x.1.2.2.2.1 x.2.1) (fun r => ((r.1, (r.2.1, ())), (r.2.2, ()))) func283 wccd fun _ => by kernel_rfl)
theorem wbld (rec_ : (Int) → (Int) → (Int) → Y1 → Option Y1) : (wadk rec_).OK (wbhr rec_) tt noZ (wae (wbhs rec_)) (wo wavv 0) := wbh (fun _ => rfl) fun _ _ => by kernel_rfl
theorem wcce (rec_ : (Int) → (Int) → (Int) → Y1 → Option Y1) : waa (wbhr rec_) tt noZ (wbhs rec_) wavv := wbb (L := [(0, wo wavv 0)]) (by kernel_rfl) (lpC (wbld rec_) lpN)
theorem wbaf : ∀ n : Nat, wav prog (264, wbhq n)
 | 0 => fun _ _ h => nomatch h
 | n + 1 => wac mixed (ww (fdC wbqr (fdC wbqt (fdC wbqu (fdC wbqx (fdC wbqy (fdC wbqz (fdC wyq (fdC wbra (fdC wbrb (fdC (wbaf n) fdN))))))))))) wad (wba (wbhq (n + 1)) (wbhr (wlj n)) wbzl noZ (wbhs (wlj n)) wavv (fun x => wavu (wlj n) x.1.2.1 x.1.2.2.1 x.1.2.2.2.1 x.2.1) (fun r => ((), (r, ()))) func264 (wcce (wlj n)) fun _ => by kernel_rfl)
theorem wbrc : wav prog (241, wbhu) := wac mixed (ww (fdC wann (fdC (wbaf 1000000) fdN))) wad (wba wbhu (wab [(234, wajz), (264, wbhq 1000000)]) wbzm noZ [] ((f241.body).getD .skip) (fun x => wbht x.2.1) (fun r => ((), (r, ()))) func241 (wbb (by kernel_rfl) lpN) fun _ => by kernel_rfl)
theorem wbrd : wav prog (203, wbhx) := wac mixed (ww (fdC wbqq (fdC wbrc fdN))) wad (wba wbhx (wab [(240, wboa), (241, wbhu)]) wbzn noZ [] ((f203.body).getD .skip) (fun x => wbhv x.1.1) (fun r => (((), ()), (r, ()))) func203 (wbb (by kernel_rfl) lpN) fun _ => by kernel_rfl)
theorem wccf : wav prog (124, D_zy) := wac mixed (ww (fdC wbqp (fdC wbrd (fdC wbqf fdN)))) wad (wba D_zy (wab [(204, wbny), (203, wbhx), (117, D_zz)]) K_zy noZ [] ((f124.body).getD .skip) (fun x => T_zy x.1.1 x.1.2.1) (fun r => ((r, ()), ())) func124 (wbb (by kernel_rfl) lpN) fun _ => by kernel_rfl)
theorem wccg : wav prog (207, D_zx) := wac mixed (ww (fdN)) wad (wba D_zx (wab []) K_zx noZ [] ((f207.body).getD .skip) (fun x => T_zx x.1.1 x.1.2.1.1 x.1.2.2.1.1 x.1.2.2.2.1.1) (fun r => ((r, ()), ())) func207 (wbb (by kernel_rfl) lpN) fun _ => by kernel_rfl)
theorem wbre : wav prog (128, D_zw) := wac mixed (ww (fdC wpq (fdC wpq (fdC wccg fdN)))) wad (wba D_zw (wab [(126, wuq), (126, wuq), (207, D_zx)]) K_zw noZ [] ((f128.body).getD .skip) (fun x => T_zw x.1.1 x.1.2.1 x.1.2.2.1 x.1.2.2.2.1) (fun r => ((r, ()), ())) func128 (wbb (by kernel_rfl) lpN) fun _ => by kernel_rfl)
theorem wcch : wav prog (127, D_zo) := wac mixed (ww (fdC wbre fdN)) wad (wba D_zo (wab [(128, D_zw)]) K_zo noZ [] ((f127.body).getD .skip) (fun x => T_zo x.1.1 x.1.2.1.1 x.1.2.2.1.1 x.1.2.2.2.1.1) (fun r => ((r, ()), ())) func127 (wbb (by kernel_rfl) lpN) fun _ => by kernel_rfl)
theorem wbrf : (wand).OK E_zn tt noZ (wae O_zn) (wo C_zn 0) := wbh (fun _ => rfl) fun _ _ => by kernel_rfl
theorem o_zn : waa E_zn tt noZ O_zn C_zn := wbb (L := [(0, wo C_zn 0)]) (by kernel_rfl) (lpC wbrf lpN)
theorem wcci : wav prog (36, D_zn) := wac mixed (ww (fdC wyp (fdC wage (fdC wbqo (fdC wccf (fdC wpq (fdC wpq (fdC wcch fdN)))))))) wad (wba D_zn E_zn K_zn noZ O_zn C_zn (fun x => T_zn x.1.1 x.1.2.1 x.1.2.2.1) (fun r => ((r.1, (r.2, ())), ())) func36 o_zn fun _ => by kernel_rfl)
theorem wble : (wadl).OK wanh tt noZ (wae wani) (wo wvh 4) := wbh (fun _ => rfl) fun _ _ => by kernel_rfl
theorem wblf : (wadm).OK wanh tt noZ (wae wani) (wo wvh 2) := wbh (fun _ => rfl) fun _ _ => by kernel_rfl
theorem wblg : (wadn).OK wanh tt noZ (wae wani) (wo wvh 0) := wbh (fun _ => rfl) fun _ _ => by kernel_rfl
theorem wccj : waa wanh tt noZ wani wvh := wbb (L := [(0, wo wvh 0), (2, wo wvh 2), (4, wo wvh 4)]) (by kernel_rfl) (lpC wblg (lpC wblf (lpC wble lpN)))
theorem wbrg : wav prog (37, wbia) := wac mixed (ww (fdC wvl (fdC wbac (fdC wvk (fdC wbab fdN))))) wad (wba wbia wanh wbzx noZ wani wvh (fun x => wbhz x.1.1 x.1.2.1 x.1.2.2.1) (fun r => ((r.1, (r.2, ())), ())) func37 wccj fun _ => by kernel_rfl)
theorem wcck : wav prog (132, D_zm) := wac mixed (ww (fdC wbre fdN)) wad (wba D_zm (wab [(128, D_zw)]) K_zm noZ [] ((f132.body).getD .skip) (fun x => T_zm x.1.1 x.1.2.1.1 x.1.2.2.1.1 x.1.2.2.2.1.1) (fun r => ((r, ()), ())) func132 (wbb (by kernel_rfl) lpN) fun _ => by kernel_rfl)
theorem wbrh : (wanj).OK E_zl tt Z_zl (wae O_zl) (wo C_zl 0) := wbh (fun _ => rfl) fun _ _ => by kernel_rfl
theorem o_zl : waa E_zl tt Z_zl O_zl C_zl := wbb (L := [(0, wo C_zl 0)]) (by kernel_rfl) (lpC wbrh lpN)
theorem wccl : wav prog (38, D_zl) := wac mixed (ww (fdC wyp (fdC wage (fdC wano (fdC wano (fdC wcck fdN)))))) wad (wba D_zl E_zl K_zl Z_zl O_zl C_zl (fun x => T_zl x.1.1 x.1.2.1) (fun r => (((), (r.1, ())), (r.2, ()))) func38 o_zl fun _ => by kernel_rfl)
theorem wblh : (wado).OK wbie tt noZ (wae wbif) (wo wavx 0) := wbh (fun _ => rfl) fun _ _ => by kernel_rfl
theorem wccm : waa wbie tt noZ wbif wavx := wbb (L := [(0, wo wavx 0)]) (by kernel_rfl) (lpC wblh lpN)
theorem wbri : wav prog (15, wbid) := wac mixed (ww (fdC wbaa fdN)) wad (wba wbid wbie wcaf noZ wbif wavx (fun x => wbic x.1.1 x.1.2.1) (fun r => ((r, ()), ())) func15 wccm fun _ => by kernel_rfl)
theorem wbli : (wadp).OK wbik tt wbij (wae wbil) (wo wavy 0) := wbh (fun _ => rfl) fun _ _ => by kernel_rfl
theorem wccn : waa wbik tt wbij wbil wavy := wbb (L := [(0, wo wavy 0)]) (by kernel_rfl) (lpC wbli lpN)
theorem wbrj : wav prog (4, wbii) := wac mixed (ww (fdC wboq (fdC wbot (fdC wcaz (fdC wbpr (fdC wbaa (fdC wcbk (fdC wbpy (fdC wcbo (fdC wbqd (fdC wyp (fdC wcbq (fdC wbqh (fdC wbqi (fdC wbqk (fdC wbqm (fdC wcci (fdC wbrg (fdC wccl (fdC wbad (fdC wbri fdN))))))))))))))))))))) wad (wba wbii wbik wcag wbij wbil wavy (fun x => wbig x.1.1) (fun r => ((r, ()), ())) func4 wccn fun _ => by kernel_rfl)
end Go.Proofs.YtnagpmhaddfgmaaGreat
