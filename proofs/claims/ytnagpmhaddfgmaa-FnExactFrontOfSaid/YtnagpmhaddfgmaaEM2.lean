/-
 The answer of a copy with counted rounds is the answer of the function. No conditions.
-/
import Derived.Test.YtnagpmhaddfgmaaEM1
namespace Go.Proofs.Ytnagpmhaddfgmaa
open List (length getD set)
open Int (toNat)
open IntKind (wrap)
theorem wapf (x1 : Int × Int) (x2 : Int × Y1) : Le (wpz x1 x2).ev (wpb x1 x2).ev := by
  unfold wpz wpb
  try dsimp only
  repeat' first
    | with_reducible exact Le.refl _
    | with_reducible exact Le.f _
    | with_reducible refine Le.t ?_ ?_
    | with_reducible refine Le.g ?_
    | with_reducible refine Le.s (fun _ => ?_) (fun _ => ?_)
    | with_reducible refine Le.c ?_ (fun _ => ?_)
    | with_reducible assumption
    | with_reducible refine Le.bnd ?_
    | with_reducible intro _
theorem wapg (x3 : Int × Int) (x4 : Int × Y1) : Le (wqa x3 x4) (wuz x3 x4) := by
  unfold wqa wuz
  refine Le.it (fun v => ?_) _ _
  apply wapf
  all_goals assumption
theorem wbhs (x5 : Int) (x6 : Int) : Le (wahz x5 x6).ev (walz x5 x6).ev := by
  unfold wahz walz
  try dsimp only
  repeat' first
    | with_reducible exact Le.refl _
    | with_reducible exact Le.f _
    | with_reducible refine Le.t ?_ ?_
    | with_reducible refine Le.g ?_
    | with_reducible refine Le.s (fun _ => ?_) (fun _ => ?_)
    | with_reducible refine Le.c ?_ (fun _ => ?_)
    | with_reducible assumption
    | with_reducible apply wapg
    | with_reducible refine Le.bnd ?_
    | with_reducible intro _
theorem wbht (x7 : Int) (x8 : Int) : Le (waia x7 x8) (wama x7 x8) := by
  unfold waia wama
  apply wbhs
  all_goals assumption
theorem waph (x9 : Y1 × Y1) (x10 : Int) : Le (wqb x9 x10).ev (wpc x9 x10).ev := by
  unfold wqb wpc
  try dsimp only
  repeat' first
    | with_reducible exact Le.refl _
    | with_reducible exact Le.f _
    | with_reducible refine Le.t ?_ ?_
    | with_reducible refine Le.g ?_
    | with_reducible refine Le.s (fun _ => ?_) (fun _ => ?_)
    | with_reducible refine Le.c ?_ (fun _ => ?_)
    | with_reducible assumption
    | with_reducible refine Le.bnd ?_
    | with_reducible intro _
theorem wapi (x11 : Y1 × Y1) (x12 : Int) : Le (wqc x11 x12) (wva x11 x12) := by
  unfold wqc wva
  refine Le.it (fun v => ?_) _ _
  apply waph
  all_goals assumption
theorem wbhu (x13 : Y1) (x14 : Y1) : Le (waib x13 x14).ev (wamb x13 x14).ev := by
  unfold waib wamb
  try dsimp only
  repeat' first
    | with_reducible exact Le.refl _
    | with_reducible exact Le.f _
    | with_reducible refine Le.t ?_ ?_
    | with_reducible refine Le.g ?_
    | with_reducible refine Le.s (fun _ => ?_) (fun _ => ?_)
    | with_reducible refine Le.c ?_ (fun _ => ?_)
    | with_reducible assumption
    | with_reducible apply wapi
    | with_reducible refine Le.bnd ?_
    | with_reducible intro _
theorem wbhv (x15 : Y1) (x16 : Y1) : Le (waic x15 x16) (wamc x15 x16) := by
  unfold waic wamc
  apply wbhu
  all_goals assumption
theorem wapj (x17 : Int × (Y2 × Yv)) (x18 : Int) : Le (wqd x17 x18).ev (wpd x17 x18).ev := by
  unfold wqd wpd
  try dsimp only
  repeat' first
    | with_reducible exact Le.refl _
    | with_reducible exact Le.f _
    | with_reducible refine Le.t ?_ ?_
    | with_reducible refine Le.g ?_
    | with_reducible refine Le.s (fun _ => ?_) (fun _ => ?_)
    | with_reducible refine Le.c ?_ (fun _ => ?_)
    | with_reducible assumption
    | with_reducible apply wbhv
    | with_reducible refine Le.bnd ?_
    | with_reducible intro _
theorem wapk (x19 : Int × (Y2 × Yv)) (x20 : Int) : Le (wqe x19 x20) (wvb x19 x20) := by
  unfold wqe wvb
  refine Le.it (fun v => ?_) _ _
  apply wapj
  all_goals assumption
theorem wapl (x21 : Int) (x22 : Y2 × Int) : Le (wqf x21 x22).ev (wpe x21 x22).ev := by
  unfold wqf wpe
  try dsimp only
  repeat' first
    | with_reducible exact Le.refl _
    | with_reducible exact Le.f _
    | with_reducible refine Le.t ?_ ?_
    | with_reducible refine Le.g ?_
    | with_reducible refine Le.s (fun _ => ?_) (fun _ => ?_)
    | with_reducible refine Le.c ?_ (fun _ => ?_)
    | with_reducible assumption
    | with_reducible apply wbht
    | with_reducible apply wapk
    | with_reducible refine Le.bnd ?_
    | with_reducible intro _
theorem wapm (x23 : Int) (x24 : Y2 × Int) : Le (wqg x23 x24) (wvc x23 x24) := by
  unfold wqg wvc
  refine Le.it (fun v => ?_) _ _
  apply wapl
  all_goals assumption
theorem wbhw (x25 : Int) : Le (waid x25).ev (wamd x25).ev := by
  unfold waid wamd
  try dsimp only
  repeat' first
    | with_reducible exact Le.refl _
    | with_reducible exact Le.f _
    | with_reducible refine Le.t ?_ ?_
    | with_reducible refine Le.g ?_
    | with_reducible refine Le.s (fun _ => ?_) (fun _ => ?_)
    | with_reducible refine Le.c ?_ (fun _ => ?_)
    | with_reducible assumption
    | with_reducible apply wapm
    | with_reducible refine Le.bnd ?_
    | with_reducible intro _
theorem wbhx (x26 : Int) : Le (waie x26) (wafr x26) := by
  unfold waie wafr
  apply wbhw
  all_goals assumption
theorem wbsk (x27 : Int) (x28 : Int) : Le (wbct x27 x28).ev (T_zs x27 x28).ev := by
  unfold wbct T_zs
  try dsimp only
  repeat' first
    | with_reducible exact Le.refl _
    | with_reducible exact Le.f _
    | with_reducible refine Le.t ?_ ?_
    | with_reducible refine Le.g ?_
    | with_reducible refine Le.s (fun _ => ?_) (fun _ => ?_)
    | with_reducible refine Le.c ?_ (fun _ => ?_)
    | with_reducible assumption
    | with_reducible refine Le.bnd ?_
    | with_reducible intro _
theorem wbsl (x29 : Int) (x30 : Int) : Le (wbcu x29 x30) (F_zs x29 x30) := by
  unfold wbcu F_zs
  apply wbsk
  all_goals assumption
theorem wbdf (x31 : Int) (x32 : Int × Y1) : Le (wwh x31 x32).ev (wys x31 x32).ev := by
  unfold wwh wys
  try dsimp only
  repeat' first
    | with_reducible exact Le.refl _
    | with_reducible exact Le.f _
    | with_reducible refine Le.t ?_ ?_
    | with_reducible refine Le.g ?_
    | with_reducible refine Le.s (fun _ => ?_) (fun _ => ?_)
    | with_reducible refine Le.c ?_ (fun _ => ?_)
    | with_reducible assumption
    | with_reducible apply wbsl
    | with_reducible refine Le.bnd ?_
    | with_reducible intro _
theorem wbdg (x33 : Int) (x34 : Int × Y1) : Le (wwi x33 x34) (wagd x33 x34) := by
  unfold wwi wagd
  refine Le.it (fun v => ?_) _ _
  apply wbdf
  all_goals assumption
theorem wbsm (x35 : Int) : Le (wbcv x35).ev (T_zt x35).ev := by
  unfold wbcv T_zt
  try dsimp only
  repeat' first
    | with_reducible exact Le.refl _
    | with_reducible exact Le.f _
    | with_reducible refine Le.t ?_ ?_
    | with_reducible refine Le.g ?_
    | with_reducible refine Le.s (fun _ => ?_) (fun _ => ?_)
    | with_reducible refine Le.c ?_ (fun _ => ?_)
    | with_reducible assumption
    | with_reducible apply wbdg
    | with_reducible refine Le.bnd ?_
    | with_reducible intro _
theorem wbsn (x36 : Int) : Le (wbcw x36) (F_zt x36) := by
  unfold wbcw F_zt
  apply wbsm
  all_goals assumption
theorem wbhy (x37 : Int) : Le (waif x37).ev (wanb x37).ev := by
  unfold waif wanb
  try dsimp only
  repeat' first
    | with_reducible exact Le.refl _
    | with_reducible exact Le.f _
    | with_reducible refine Le.t ?_ ?_
    | with_reducible refine Le.g ?_
    | with_reducible refine Le.s (fun _ => ?_) (fun _ => ?_)
    | with_reducible refine Le.c ?_ (fun _ => ?_)
    | with_reducible assumption
    | with_reducible refine Le.bnd ?_
    | with_reducible intro _
theorem wbhz (x38 : Int) : Le (waig x38) (wanc x38) := by
  unfold waig wanc
  apply wbhy
  all_goals assumption
theorem wbia (x39 : Int) : Le (waih x39).ev (wand x39).ev := by
  unfold waih wand
  try dsimp only
  repeat' first
    | with_reducible exact Le.refl _
    | with_reducible exact Le.f _
    | with_reducible refine Le.t ?_ ?_
    | with_reducible refine Le.g ?_
    | with_reducible refine Le.s (fun _ => ?_) (fun _ => ?_)
    | with_reducible refine Le.c ?_ (fun _ => ?_)
    | with_reducible assumption
    | with_reducible apply wbhz
    | with_reducible refine Le.bnd ?_
    | with_reducible intro _
theorem wask (x40 : Int) : Le (waah x40) (wagf x40) := by
  unfold waah wagf
  apply wbia
  all_goals assumption
theorem wapn (c41 : (Int)) (c42 : (Int)) (q43 q44 : (Yd)) (hq45 : ∀ h, Le (q43 h) (q44 h)) (c46 : Int) (x47 : Int × Y2) : Le (wqh (c41, (c42, (q43, c46))) x47).ev (wpg (c41, (c42, (q44, c46))) x47).ev := by
  unfold wqh wpg
  try dsimp only
  repeat' first
    | with_reducible exact Le.refl _
    | with_reducible exact Le.f _
    | with_reducible refine Le.t ?_ ?_
    | with_reducible refine Le.g ?_
    | with_reducible refine Le.s (fun _ => ?_) (fun _ => ?_)
    | with_reducible refine Le.c ?_ (fun _ => ?_)
    | with_reducible assumption
    | with_reducible apply hq45
    | with_reducible refine Le.bnd ?_
    | with_reducible intro _
theorem wapo (c48 : (Int)) (c49 : (Int)) (q50 q51 : (Yd)) (hq52 : ∀ h, Le (q50 h) (q51 h)) (c53 : Int) (x54 : Int × Y2) : Le (wqi (c48, (c49, (q50, c53))) x54) (wvd (c48, (c49, (q51, c53))) x54) := by
  unfold wqi wvd
  refine Le.it (fun v => ?_) _ _
  apply wapn
  all_goals assumption
theorem wapp (c55 : (Int)) (c56 : (Int)) (q57 q58 : HL [y1, y1] → Option (Int)) (hq59 : ∀ h, Le (q57 h) (q58 h)) (x60 : Int × Y2) : Le (wqj (c55, (c56, q57)) x60).ev (wph (c55, (c56, q58)) x60).ev := by
  unfold wqj wph
  try dsimp only
  repeat' first
    | with_reducible exact Le.refl _
    | with_reducible exact Le.f _
    | with_reducible refine Le.t ?_ ?_
    | with_reducible refine Le.g ?_
    | with_reducible refine Le.s (fun _ => ?_) (fun _ => ?_)
    | with_reducible refine Le.c ?_ (fun _ => ?_)
    | with_reducible assumption
    | with_reducible apply hq59
    | with_reducible apply wapo
    | with_reducible refine Le.bnd ?_
    | with_reducible intro _
theorem wapq (c61 : (Int)) (c62 : (Int)) (q63 q64 : HL [y1, y1] → Option (Int)) (hq65 : ∀ h, Le (q63 h) (q64 h)) (x66 : Int × Y2) : Le (wqk (c61, (c62, q63)) x66) (wve (c61, (c62, q64)) x66) := by
  unfold wqk wve
  refine Le.it (fun v => ?_) _ _
  apply wapp
  all_goals assumption
theorem wbib (x67 : Int) (x68 : Int) (q69 q70 : Yd) (hq71 : ∀ h, Le (q69 h) (q70 h)) (x72 : List Y1) : Le (waii x67 x68 q69 x72).ev (wanf x67 x68 q70 x72).ev := by
  unfold waii wanf
  try dsimp only
  repeat' first
    | with_reducible exact Le.refl _
    | with_reducible exact Le.f _
    | with_reducible refine Le.t ?_ ?_
    | with_reducible refine Le.g ?_
    | with_reducible refine Le.s (fun _ => ?_) (fun _ => ?_)
    | with_reducible refine Le.c ?_ (fun _ => ?_)
    | with_reducible assumption
    | with_reducible apply hq71
    | with_reducible apply wapq
    | with_reducible refine Le.bnd ?_
    | with_reducible intro _
theorem wbic (x73 : Int) (x74 : Int) (q75 q76 : Yd) (hq77 : ∀ h, Le (q75 h) (q76 h)) (x78 : List Y1) : Le (waij x73 x74 q75 x78) (wang x73 x74 q76 x78) := by
  unfold waij wang
  apply wbib
  all_goals assumption
theorem wbid (x79 : Int) : Le (waik x79).ev (wank x79).ev := by
  unfold waik wank
  try dsimp only
  repeat' first
    | with_reducible exact Le.refl _
    | with_reducible exact Le.f _
    | with_reducible refine Le.t ?_ ?_
    | with_reducible refine Le.g ?_
    | with_reducible refine Le.s (fun _ => ?_) (fun _ => ?_)
    | with_reducible refine Le.c ?_ (fun _ => ?_)
    | with_reducible assumption
    | with_reducible apply wask
    | with_reducible refine Le.bnd ?_
    | with_reducible intro _
theorem wbie (x80 : Int) : Le (wail x80) (wanl x80) := by
  unfold wail wanl
  apply wbid
  all_goals assumption
theorem wbif (x81 : Int) : Le (waim x81).ev (wanm x81).ev := by
  unfold waim wanm
  try dsimp only
  repeat' first
    | with_reducible exact Le.refl _
    | with_reducible exact Le.f _
    | with_reducible refine Le.t ?_ ?_
    | with_reducible refine Le.g ?_
    | with_reducible refine Le.s (fun _ => ?_) (fun _ => ?_)
    | with_reducible refine Le.c ?_ (fun _ => ?_)
    | with_reducible assumption
    | with_reducible refine Le.bnd ?_
    | with_reducible intro _
theorem wbig (x82 : Int) : Le (wain x82) (wann x82) := by
  unfold wain wann
  apply wbif
  all_goals assumption
theorem wapr (x83 : Int × Ye) (x84 : Int × (Y2 × Int)) : Le (wql x83 x84).ev (wpi x83 x84).ev := by
  unfold wql wpi
  try dsimp only
  repeat' first
    | with_reducible exact Le.refl _
    | with_reducible exact Le.f _
    | with_reducible refine Le.t ?_ ?_
    | with_reducible refine Le.g ?_
    | with_reducible refine Le.s (fun _ => ?_) (fun _ => ?_)
    | with_reducible refine Le.c ?_ (fun _ => ?_)
    | with_reducible assumption
    | with_reducible apply wbig
    | with_reducible refine Le.bnd ?_
    | with_reducible intro _
theorem waps (x85 : Int × Ye) (x86 : Int × (Y2 × Int)) : Le (wqm x85 x86) (wvf x85 x86) := by
  unfold wqm wvf
  refine Le.it (fun v => ?_) _ _
  apply wapr
  all_goals assumption
theorem wbih (x87 : Int) (x88 : Int) (q89 q90 : Yd) (hq91 : ∀ h, Le (q89 h) (q90 h)) (x92 : List Y1) : Le (waio x87 x88 q89 x92).ev (wano x87 x88 q90 x92).ev := by
  unfold waio wano
  try dsimp only
  repeat' first
    | with_reducible exact Le.refl _
    | with_reducible exact Le.f _
    | with_reducible refine Le.t ?_ ?_
    | with_reducible refine Le.g ?_
    | with_reducible refine Le.s (fun _ => ?_) (fun _ => ?_)
    | with_reducible refine Le.c ?_ (fun _ => ?_)
    | with_reducible assumption
    | with_reducible apply hq91
    | with_reducible apply wbie
    | with_reducible apply waps
    | with_reducible refine Le.bnd ?_
    | with_reducible intro _
theorem wbii (x93 : Int) (x94 : Int) (q95 q96 : Yd) (hq97 : ∀ h, Le (q95 h) (q96 h)) (x98 : List Y1) : Le (waip x93 x94 q95 x98) (wanp x93 x94 q96 x98) := by
  unfold waip wanp
  apply wbih
  all_goals assumption
theorem wbij (x99 : List Y1) (x100 : Int) (x101 : Int) (q102 q103 : Yd) (hq104 : ∀ h, Le (q102 h) (q103 h)) (x105 : Int) : Le (waiq x99 x100 x101 q102 x105).ev (wanq x99 x100 x101 q103 x105).ev := by
  unfold waiq wanq
  try dsimp only
  repeat' first
    | with_reducible exact Le.refl _
    | with_reducible exact Le.f _
    | with_reducible refine Le.t ?_ ?_
    | with_reducible refine Le.g ?_
    | with_reducible refine Le.s (fun _ => ?_) (fun _ => ?_)
    | with_reducible refine Le.c ?_ (fun _ => ?_)
    | with_reducible assumption
    | with_reducible apply hq104
    | with_reducible refine Le.bnd ?_
    | with_reducible intro _
theorem wbik (x106 : List Y1) (x107 : Int) (x108 : Int) (q109 q110 : Yd) (hq111 : ∀ h, Le (q109 h) (q110 h)) (x112 : Int) : Le (wti x106 x107 x108 q109 x112) (wabx x106 x107 x108 q110 x112) := by
  unfold wti wabx
  apply wbij
  all_goals assumption
theorem wbil (x113 : List Y1) (x114 : Int) (x115 : Int) (x116 : Int) (q117 q118 : Yd) (hq119 : ∀ h, Le (q117 h) (q118 h)) (x120 : Int) : Le (wair x113 x114 x115 x116 q117 x120).ev (wanr x113 x114 x115 x116 q118 x120).ev := by
  unfold wair wanr
  try dsimp only
  repeat' first
    | with_reducible exact Le.refl _
    | with_reducible exact Le.f _
    | with_reducible refine Le.t ?_ ?_
    | with_reducible refine Le.g ?_
    | with_reducible refine Le.s (fun _ => ?_) (fun _ => ?_)
    | with_reducible refine Le.c ?_ (fun _ => ?_)
    | with_reducible assumption
    | with_reducible apply hq119
    | with_reducible apply wbik
    | with_reducible refine Le.bnd ?_
    | with_reducible intro _
theorem wasl (x121 : List Y1) (x122 : Int) (x123 : Int) (x124 : Int) (q125 q126 : Yd) (hq127 : ∀ h, Le (q125 h) (q126 h)) (x128 : Int) : Le (wtj x121 x122 x123 x124 q125 x128) (waby x121 x122 x123 x124 q126 x128) := by
  unfold wtj waby
  apply wbil
  all_goals assumption
theorem wbim (x129 : List Y1) (x130 : Int) (q131 q132 : Yd) (hq133 : ∀ h, Le (q131 h) (q132 h)) (x134 : Int) : Le (wais x129 x130 q131 x134).ev (wanu x129 x130 q132 x134).ev := by
  unfold wais wanu
  try dsimp only
  repeat' first
    | with_reducible exact Le.refl _
    | with_reducible exact Le.f _
    | with_reducible refine Le.t ?_ ?_
    | with_reducible refine Le.g ?_
    | with_reducible refine Le.s (fun _ => ?_) (fun _ => ?_)
    | with_reducible refine Le.c ?_ (fun _ => ?_)
    | with_reducible assumption
    | with_reducible apply hq133
    | with_reducible apply wasl
    | with_reducible refine Le.bnd ?_
    | with_reducible intro _
theorem wbin (x135 : List Y1) (x136 : Int) (q137 q138 : Yd) (hq139 : ∀ h, Le (q137 h) (q138 h)) (x140 : Int) : Le (wtk x135 x136 q137 x140) (wabz x135 x136 q138 x140) := by
  unfold wtk wabz
  apply wbim
  all_goals assumption
theorem wbio (x141 : List Y1) (x142 : Int) (x143 : Int) (q144 q145 : Yd) (hq146 : ∀ h, Le (q144 h) (q145 h)) : Le (waiu x141 x142 x143 q144).ev (wanv x141 x142 x143 q145).ev := by
  unfold waiu wanv
  try dsimp only
  repeat' first
    | with_reducible exact Le.refl _
    | with_reducible exact Le.f _
    | with_reducible refine Le.t ?_ ?_
    | with_reducible refine Le.g ?_
    | with_reducible refine Le.s (fun _ => ?_) (fun _ => ?_)
    | with_reducible refine Le.c ?_ (fun _ => ?_)
    | with_reducible assumption
    | with_reducible apply hq146
    | with_reducible apply wbin
    | with_reducible apply wasl
    | with_reducible refine Le.bnd ?_
    | with_reducible intro _
theorem wbip (x147 : List Y1) (x148 : Int) (x149 : Int) (q150 q151 : Yd) (hq152 : ∀ h, Le (q150 h) (q151 h)) : Le (waai x147 x148 x149 q150) (wagg x147 x148 x149 q151) := by
  unfold waai wagg
  apply wbio
  all_goals assumption
theorem wapt (c153 : (Int)) (q154 q155 : (Yd)) (hq156 : ∀ h, Le (q154 h) (q155 h)) (c157 : (Int)) (c158 : List Y1) (x159 : Int) : Le (wqn (c153, (q154, (c157, c158))) x159).ev (wpj (c153, (q155, (c157, c158))) x159).ev := by
  unfold wqn wpj
  try dsimp only
  repeat' first
    | with_reducible exact Le.refl _
    | with_reducible exact Le.f _
    | with_reducible refine Le.t ?_ ?_
    | with_reducible refine Le.g ?_
    | with_reducible refine Le.s (fun _ => ?_) (fun _ => ?_)
    | with_reducible refine Le.c ?_ (fun _ => ?_)
    | with_reducible assumption
    | with_reducible apply hq156
    | with_reducible refine Le.bnd ?_
    | with_reducible intro _
theorem wapu (c160 : (Int)) (q161 q162 : (Yd)) (hq163 : ∀ h, Le (q161 h) (q162 h)) (c164 : (Int)) (c165 : List Y1) (x166 : Int) : Le (wqo (c160, (q161, (c164, c165))) x166) (wvg (c160, (q162, (c164, c165))) x166) := by
  unfold wqo wvg
  refine Le.it (fun v => ?_) _ _
  apply wapt
  all_goals assumption
theorem wapv (c167 : (Int)) (q168 q169 : (Yd)) (hq170 : ∀ h, Le (q168 h) (q169 h)) (c171 : (Int)) (c172 : List Y1) (x173 : Int) : Le (wqp (c167, (q168, (c171, c172))) x173).ev (wpk (c167, (q169, (c171, c172))) x173).ev := by
  unfold wqp wpk
  try dsimp only
  repeat' first
    | with_reducible exact Le.refl _
    | with_reducible exact Le.f _
    | with_reducible refine Le.t ?_ ?_
    | with_reducible refine Le.g ?_
    | with_reducible refine Le.s (fun _ => ?_) (fun _ => ?_)
    | with_reducible refine Le.c ?_ (fun _ => ?_)
    | with_reducible assumption
    | with_reducible apply hq170
    | with_reducible refine Le.bnd ?_
    | with_reducible intro _
theorem wapw (c174 : (Int)) (q175 q176 : (Yd)) (hq177 : ∀ h, Le (q175 h) (q176 h)) (c178 : (Int)) (c179 : List Y1) (x180 : Int) : Le (wqq (c174, (q175, (c178, c179))) x180) (wvh (c174, (q176, (c178, c179))) x180) := by
  unfold wqq wvh
  refine Le.it (fun v => ?_) _ _
  apply wapv
  all_goals assumption
theorem wapx (c181 : (Int)) (q182 q183 : (Yd)) (hq184 : ∀ h, Le (q182 h) (q183 h)) (c185 : (Int)) (c186 : List Y1) (x187 : Int) : Le (wqr (c181, (q182, (c185, c186))) x187).ev (wpm (c181, (q183, (c185, c186))) x187).ev := by
  unfold wqr wpm
  try dsimp only
  repeat' first
    | with_reducible exact Le.refl _
    | with_reducible exact Le.f _
    | with_reducible refine Le.t ?_ ?_
    | with_reducible refine Le.g ?_
    | with_reducible refine Le.s (fun _ => ?_) (fun _ => ?_)
    | with_reducible refine Le.c ?_ (fun _ => ?_)
    | with_reducible assumption
    | with_reducible apply hq184
    | with_reducible refine Le.bnd ?_
    | with_reducible intro _
theorem wapy (c188 : (Int)) (q189 q190 : (Yd)) (hq191 : ∀ h, Le (q189 h) (q190 h)) (c192 : (Int)) (c193 : List Y1) (x194 : Int) : Le (wqs (c188, (q189, (c192, c193))) x194) (wvi (c188, (q190, (c192, c193))) x194) := by
  unfold wqs wvi
  refine Le.it (fun v => ?_) _ _
  apply wapx
  all_goals assumption
theorem wapz (c195 : (Int)) (q196 q197 : (Yd)) (hq198 : ∀ h, Le (q196 h) (q197 h)) (c199 : (Int)) (c200 : List Y1) (x201 : Int) : Le (wqt (c195, (q196, (c199, c200))) x201).ev (wpn (c195, (q197, (c199, c200))) x201).ev := by
  unfold wqt wpn
  try dsimp only
  repeat' first
    | with_reducible exact Le.refl _
    | with_reducible exact Le.f _
    | with_reducible refine Le.t ?_ ?_
    | with_reducible refine Le.g ?_
    | with_reducible refine Le.s (fun _ => ?_) (fun _ => ?_)
    | with_reducible refine Le.c ?_ (fun _ => ?_)
    | with_reducible assumption
    | with_reducible apply hq198
    | with_reducible refine Le.bnd ?_
    | with_reducible intro _
theorem waqa (c202 : (Int)) (q203 q204 : (Yd)) (hq205 : ∀ h, Le (q203 h) (q204 h)) (c206 : (Int)) (c207 : List Y1) (x208 : Int) : Le (wqu (c202, (q203, (c206, c207))) x208) (wvj (c202, (q204, (c206, c207))) x208) := by
  unfold wqu wvj
  refine Le.it (fun v => ?_) _ _
  apply wapz
  all_goals assumption
theorem waqb (c209 : (Int)) (q210 q211 : HL [y1, y1] → Option (Int)) (hq212 : ∀ h, Le (q210 h) (q211 h)) (x213 : Int × Ym) : Le (wqv (c209, q210) x213).ev (wpo (c209, q211) x213).ev := by
  unfold wqv wpo
  try dsimp only
  repeat' first
    | with_reducible exact Le.refl _
    | with_reducible exact Le.f _
    | with_reducible refine Le.t ?_ ?_
    | with_reducible refine Le.g ?_
    | with_reducible refine Le.s (fun _ => ?_) (fun _ => ?_)
    | with_reducible refine Le.c ?_ (fun _ => ?_)
    | with_reducible assumption
    | with_reducible apply hq212
    | with_reducible apply wapy
    | with_reducible apply waqa
    | with_reducible refine Le.bnd ?_
    | with_reducible intro _
theorem waqc (c214 : (Int)) (q215 q216 : HL [y1, y1] → Option (Int)) (hq217 : ∀ h, Le (q215 h) (q216 h)) (x218 : Int × Ym) : Le (wqw (c214, q215) x218) (wvk (c214, q216) x218) := by
  unfold wqw wvk
  refine Le.it (fun v => ?_) _ _
  apply waqb
  all_goals assumption
theorem wbiq (x219 : Int) (x220 : Int) (x221 : Int) (q222 q223 : Yd) (hq224 : ∀ h, Le (q222 h) (q223 h)) (x225 : List Y1) : Le (waiv x219 x220 x221 q222 x225).ev (wanw x219 x220 x221 q223 x225).ev := by
  unfold waiv wanw
  try dsimp only
  repeat' first
    | with_reducible exact Le.refl _
    | with_reducible exact Le.f _
    | with_reducible refine Le.t ?_ ?_
    | with_reducible refine Le.g ?_
    | with_reducible refine Le.s (fun _ => ?_) (fun _ => ?_)
    | with_reducible refine Le.c ?_ (fun _ => ?_)
    | with_reducible assumption
    | with_reducible apply hq224
    | with_reducible apply wapu
    | with_reducible apply wapw
    | with_reducible apply waqc
    | with_reducible refine Le.bnd ?_
    | with_reducible intro _
theorem wbir (x226 : Int) (x227 : Int) (x228 : Int) (q229 q230 : Yd) (hq231 : ∀ h, Le (q229 h) (q230 h)) (x232 : List Y1) : Le (wdk x226 x227 x228 q229 x232) (wfx x226 x227 x228 q230 x232) := by
  unfold wdk wfx
  apply wbiq
  all_goals assumption
theorem waqd (rec233 rec234 : (Int) → (Int) → (Int) → (Yd) → Y2 → Option Y2) (hr235 : ∀ (x236 : (Int)) (x237 : (Int)) (x238 : (Int)) (q239 q240 : (Yd)) (hq241 : ∀ h, Le (q239 h) (q240 h)) (x242 : Y2), Le (rec233 x236 x237 x238 q239 x242) (rec234 x236 x237 x238 q240 x242)) (q243 q244 : Yd) (hq245 : ∀ h, Le (q243 h) (q244 h)) (x246 : Int × Yq) : Le (wqx rec233 q243 x246).ev (wpp rec234 q244 x246).ev := by
  unfold wqx wpp
  try dsimp only
  repeat' first
    | with_reducible exact Le.refl _
    | with_reducible exact Le.f _
    | with_reducible refine Le.t ?_ ?_
    | with_reducible refine Le.g ?_
    | with_reducible refine Le.s (fun _ => ?_) (fun _ => ?_)
    | with_reducible refine Le.c ?_ (fun _ => ?_)
    | with_reducible assumption
    | with_reducible apply hr235
    | with_reducible apply hq245
    | with_reducible apply wbic
    | with_reducible apply wbii
    | with_reducible apply wbip
    | with_reducible apply wbir
    | with_reducible refine Le.bnd ?_
    | with_reducible intro _
theorem waqe (rec247 rec248 : (Int) → (Int) → (Int) → (Yd) → Y2 → Option Y2) (hr249 : ∀ (x250 : (Int)) (x251 : (Int)) (x252 : (Int)) (q253 q254 : (Yd)) (hq255 : ∀ h, Le (q253 h) (q254 h)) (x256 : Y2), Le (rec247 x250 x251 x252 q253 x256) (rec248 x250 x251 x252 q254 x256)) (q257 q258 : Yd) (hq259 : ∀ h, Le (q257 h) (q258 h)) (x260 : Int × Yq) : Le (wqy rec247 q257 x260) (wvo rec248 q258 x260) := by
  unfold wqy wvo
  refine Le.it (fun v => ?_) _ _
  apply waqd
  all_goals assumption
theorem wbis (rec261 rec262 : (Int) → (Int) → (Int) → (Yd) → Y2 → Option Y2) (hr263 : ∀ (x264 : (Int)) (x265 : (Int)) (x266 : (Int)) (q267 q268 : (Yd)) (hq269 : ∀ h, Le (q267 h) (q268 h)) (x270 : Y2), Le (rec261 x264 x265 x266 q267 x270) (rec262 x264 x265 x266 q268 x270)) (x271 : Int) (x272 : Int) (x273 : Int) (q274 q275 : Yd) (hq276 : ∀ h, Le (q274 h) (q275 h)) (x277 : List Y1) : Le (waiw rec261 x271 x272 x273 q274 x277).ev (wanx rec262 x271 x272 x273 q275 x277).ev := by
  unfold waiw wanx
  try dsimp only
  repeat' first
    | with_reducible exact Le.refl _
    | with_reducible exact Le.f _
    | with_reducible refine Le.t ?_ ?_
    | with_reducible refine Le.g ?_
    | with_reducible refine Le.s (fun _ => ?_) (fun _ => ?_)
    | with_reducible refine Le.c ?_ (fun _ => ?_)
    | with_reducible assumption
    | with_reducible apply hr263
    | with_reducible apply hq276
    | with_reducible apply waqe
    | with_reducible refine Le.bnd ?_
    | with_reducible intro _
theorem wasm : ∀ (n : Nat) (x278 : (Int)) (x279 : (Int)) (x280 : (Int)) (q281 q282 : (Yd)) (hq283 : ∀ h, Le (q281 h) (q282 h)) (x284 : Y2), Le (waaj n x278 x279 x280 q281 x284) (wpq n x278 x279 x280 q282 x284)
  | 0 => by intros; exact Le.none _
  | n + 1 => by
    intros
    unfold waaj wpq
    apply wbis
    · exact wasm n
    all_goals assumption
theorem wbit (q285 q286 : Yd) (hq287 : ∀ h, Le (q285 h) (q286 h)) (x288 : List Y1) : Le (waix q285 x288).ev (wany q286 x288).ev := by
  unfold waix wany
  try dsimp only
  repeat' first
    | with_reducible exact Le.refl _
    | with_reducible exact Le.f _
    | with_reducible refine Le.t ?_ ?_
    | with_reducible refine Le.g ?_
    | with_reducible refine Le.s (fun _ => ?_) (fun _ => ?_)
    | with_reducible refine Le.c ?_ (fun _ => ?_)
    | with_reducible assumption
    | with_reducible apply hq287
    | with_reducible apply wask
    | with_reducible apply wasm
    | with_reducible refine Le.bnd ?_
    | with_reducible intro _
theorem wbiu (q289 q290 : Yd) (hq291 : ∀ h, Le (q289 h) (q290 h)) (x292 : List Y1) : Le (waiy q289 x292) (wanz q290 x292) := by
  unfold waiy wanz
  apply wbit
  all_goals assumption
theorem wbso (x293 : Int) : Le (wbcx x293).ev (T_zc x293).ev := by
  unfold wbcx T_zc
  try dsimp only
  repeat' first
    | with_reducible exact Le.refl _
    | with_reducible exact Le.f _
    | with_reducible refine Le.t ?_ ?_
    | with_reducible refine Le.g ?_
    | with_reducible refine Le.s (fun _ => ?_) (fun _ => ?_)
    | with_reducible refine Le.c ?_ (fun _ => ?_)
    | with_reducible assumption
    | with_reducible refine Le.bnd ?_
    | with_reducible intro _
theorem wbsp (x294 : Int) : Le (wapd x294) (F_zc x294) := by
  unfold wapd F_zc
  apply wbso
  all_goals assumption
theorem wbsq (x295 : Int) (x296 : Int) : Le (wbcy x295 x296).ev (T_za x295 x296).ev := by
  unfold wbcy T_za
  try dsimp only
  repeat' first
    | with_reducible exact Le.refl _
    | with_reducible exact Le.f _
    | with_reducible refine Le.t ?_ ?_
    | with_reducible refine Le.g ?_
    | with_reducible refine Le.s (fun _ => ?_) (fun _ => ?_)
    | with_reducible refine Le.c ?_ (fun _ => ?_)
    | with_reducible assumption
    | with_reducible apply wbsp
    | with_reducible refine Le.bnd ?_
    | with_reducible intro _
theorem wbiv (x297 : Int) (x298 : Int) : Le (wape x297 x298) (F_za x297 x298) := by
  unfold wape F_za
  apply wbsq
  all_goals assumption
theorem waqf (x299 : Y1 × (Y1 × (Y1 × Int))) (x300 : Int) : Le (wqz x299 x300).ev (wpr x299 x300).ev := by
  unfold wqz wpr
  try dsimp only
  repeat' first
    | with_reducible exact Le.refl _
    | with_reducible exact Le.f _
    | with_reducible refine Le.t ?_ ?_
    | with_reducible refine Le.g ?_
    | with_reducible refine Le.s (fun _ => ?_) (fun _ => ?_)
    | with_reducible refine Le.c ?_ (fun _ => ?_)
    | with_reducible assumption
    | with_reducible apply wbiv
    | with_reducible refine Le.bnd ?_
    | with_reducible intro _
theorem waqg (x301 : Y1 × (Y1 × (Y1 × Int))) (x302 : Int) : Le (wra x301 x302) (wvp x301 x302) := by
  unfold wra wvp
  refine Le.it (fun v => ?_) _ _
  apply waqf
  all_goals assumption
theorem wbiw (x303 : Y1) (x304 : Y1) : Le (waiz x303 x304).ev (waoc x303 x304).ev := by
  unfold waiz waoc
  try dsimp only
  repeat' first
    | with_reducible exact Le.refl _
    | with_reducible exact Le.f _
    | with_reducible refine Le.t ?_ ?_
    | with_reducible refine Le.g ?_
    | with_reducible refine Le.s (fun _ => ?_) (fun _ => ?_)
    | with_reducible refine Le.c ?_ (fun _ => ?_)
    | with_reducible assumption
    | with_reducible apply waqg
    | with_reducible refine Le.bnd ?_
    | with_reducible intro _
theorem wbix (x305 : Y1) (x306 : Y1) : Le (waja x305 x306) (waod x305 x306) := by
  unfold waja waod
  apply wbiw
  all_goals assumption
theorem wbdh (x307 : Int × (Y1 × Int)) (x308 : Int) : Le (wwj x307 x308).ev (wdj x307 x308).ev := by
  unfold wwj wdj
  try dsimp only
  repeat' first
    | with_reducible exact Le.refl _
    | with_reducible exact Le.f _
    | with_reducible refine Le.t ?_ ?_
    | with_reducible refine Le.g ?_
    | with_reducible refine Le.s (fun _ => ?_) (fun _ => ?_)
    | with_reducible refine Le.c ?_ (fun _ => ?_)
    | with_reducible assumption
    | with_reducible refine Le.bnd ?_
    | with_reducible intro _
theorem wbdi (x309 : Int × (Y1 × Int)) (x310 : Int) : Le (wwk x309 x310) (wzd x309 x310) := by
  unfold wwk wzd
  refine Le.it (fun v => ?_) _ _
  apply wbdh
  all_goals assumption
theorem wbsr (x311 : Y1) : Le (wbcz x311).ev (T_zb x311).ev := by
  unfold wbcz T_zb
  try dsimp only
  repeat' first
    | with_reducible exact Le.refl _
    | with_reducible exact Le.f _
    | with_reducible refine Le.t ?_ ?_
    | with_reducible refine Le.g ?_
    | with_reducible refine Le.s (fun _ => ?_) (fun _ => ?_)
    | with_reducible refine Le.c ?_ (fun _ => ?_)
    | with_reducible assumption
    | with_reducible apply wbdi
    | with_reducible refine Le.bnd ?_
    | with_reducible intro _
theorem wbss (x312 : Y1) : Le (wbda x312) (F_zb x312) := by
  unfold wbda F_zb
  apply wbsr
  all_goals assumption
theorem wbst (x313 : Y1) (x314 : Y1) : Le (wbdb x313 x314).ev (T_zv x313 x314).ev := by
  unfold wbdb T_zv
  try dsimp only
  repeat' first
    | with_reducible exact Le.refl _
    | with_reducible exact Le.f _
    | with_reducible refine Le.t ?_ ?_
    | with_reducible refine Le.g ?_
    | with_reducible refine Le.s (fun _ => ?_) (fun _ => ?_)
    | with_reducible refine Le.c ?_ (fun _ => ?_)
    | with_reducible assumption
    | with_reducible apply wbiv
    | with_reducible apply wbix
    | with_reducible apply wbss
    | with_reducible refine Le.bnd ?_
    | with_reducible intro _
theorem wbsu (x315 : Y1) (x316 : Y1) : Le (wbdc x315 x316) (F_zv x315 x316) := by
  unfold wbdc F_zv
  apply wbst
  all_goals assumption
theorem wbdj (x317 : Int) (x318 : Int × Y2) : Le (wwl x317 x318).ev (wze x317 x318).ev := by
  unfold wwl wze
  try dsimp only
  repeat' first
    | with_reducible exact Le.refl _
    | with_reducible exact Le.f _
    | with_reducible refine Le.t ?_ ?_
    | with_reducible refine Le.g ?_
    | with_reducible refine Le.s (fun _ => ?_) (fun _ => ?_)
    | with_reducible refine Le.c ?_ (fun _ => ?_)
    | with_reducible assumption
    | with_reducible apply wbsn
    | with_reducible refine Le.bnd ?_
    | with_reducible intro _
theorem wbdk (x319 : Int) (x320 : Int × Y2) : Le (wwm x319 x320) (wagi x319 x320) := by
  unfold wwm wagi
  refine Le.it (fun v => ?_) _ _
  apply wbdj
  all_goals assumption
theorem wbsv (x321 : Int) : Le (wbdd x321).ev (T_zy x321).ev := by
  unfold wbdd T_zy
  try dsimp only
  repeat' first
    | with_reducible exact Le.refl _
    | with_reducible exact Le.f _
    | with_reducible refine Le.t ?_ ?_
    | with_reducible refine Le.g ?_
    | with_reducible refine Le.s (fun _ => ?_) (fun _ => ?_)
    | with_reducible refine Le.c ?_ (fun _ => ?_)
    | with_reducible assumption
    | with_reducible apply wbdk
    | with_reducible apply wbiu
    | with_reducible apply wbsu
    | with_reducible refine Le.bnd ?_
    | with_reducible intro _
theorem wbsw (x322 : Int) : Le (wbde x322) (F_zy x322) := by
  unfold wbde F_zy
  apply wbsv
  all_goals assumption
end Go.Proofs.Ytnagpmhaddfgmaa
