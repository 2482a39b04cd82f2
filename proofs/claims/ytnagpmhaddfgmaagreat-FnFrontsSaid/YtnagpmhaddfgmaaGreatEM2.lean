/-
 The answer of a copy with counted rounds is the answer of the function. No conditions.
-/
import Derived.Test.YtnagpmhaddfgmaaGreatEM1
namespace Go.Proofs.YtnagpmhaddfgmaaGreat
open List (length getD set)
open Int (toNat)
open IntKind (wrap)
theorem wbay (x1 : Int) (x2 : Int) : Le (wamm x1 x2).ev (T_zy x1 x2).ev := by
  unfold wamm T_zy
  try dsimp only
  repeat' first
    | with_reducible exact Le.refl _
    | with_reducible exact Le.f _
    | with_reducible refine Le.t ?_ ?_
    | with_reducible refine Le.g ?_
    | with_reducible refine Le.s (fun _ => ?_) (fun _ => ?_)
    | with_reducible refine Le.c ?_ (fun _ => ?_)
    | with_reducible assumption
    | with_reducible refine Le.bnd ?_
    | with_reducible intro _
theorem wbaz (x3 : Int) (x4 : Int) : Le (wamn x3 x4) (F_zy x3 x4) := by
  unfold wamn F_zy
  apply wbay
  all_goals assumption
theorem wamu (x5 : Int) (x6 : Int × Y1) : Le (wks x5 x6).ev (wlt x5 x6).ev := by
  unfold wks wlt
  try dsimp only
  repeat' first
    | with_reducible exact Le.refl _
    | with_reducible exact Le.f _
    | with_reducible refine Le.t ?_ ?_
    | with_reducible refine Le.g ?_
    | with_reducible refine Le.s (fun _ => ?_) (fun _ => ?_)
    | with_reducible refine Le.c ?_ (fun _ => ?_)
    | with_reducible assumption
    | with_reducible apply wbaz
    | with_reducible refine Le.bnd ?_
    | with_reducible intro _
theorem wamv (x7 : Int) (x8 : Int × Y1) : Le (wkt x7 x8) (wqn x7 x8) := by
  unfold wkt wqn
  refine Le.it (fun v => ?_) _ _
  apply wamu
  all_goals assumption
theorem wbba (x9 : Int) : Le (wamo x9).ev (T_zz x9).ev := by
  unfold wamo T_zz
  try dsimp only
  repeat' first
    | with_reducible exact Le.refl _
    | with_reducible exact Le.f _
    | with_reducible refine Le.t ?_ ?_
    | with_reducible refine Le.g ?_
    | with_reducible refine Le.s (fun _ => ?_) (fun _ => ?_)
    | with_reducible refine Le.c ?_ (fun _ => ?_)
    | with_reducible assumption
    | with_reducible apply wamv
    | with_reducible refine Le.bnd ?_
    | with_reducible intro _
theorem wbbb (x10 : Int) : Le (wamp x10) (F_zz x10) := by
  unfold wamp F_zz
  apply wbba
  all_goals assumption
theorem waqj (x11 : Int) : Le (wta x11).ev (wvh x11).ev := by
  unfold wta wvh
  try dsimp only
  repeat' first
    | with_reducible exact Le.refl _
    | with_reducible exact Le.f _
    | with_reducible refine Le.t ?_ ?_
    | with_reducible refine Le.g ?_
    | with_reducible refine Le.s (fun _ => ?_) (fun _ => ?_)
    | with_reducible refine Le.c ?_ (fun _ => ?_)
    | with_reducible assumption
    | with_reducible refine Le.bnd ?_
    | with_reducible intro _
theorem waqk (x12 : Int) : Le (wtb x12) (wvi x12) := by
  unfold wtb wvi
  apply waqj
  all_goals assumption
theorem waql (x13 : Int) : Le (wtc x13).ev (wvj x13).ev := by
  unfold wtc wvj
  try dsimp only
  repeat' first
    | with_reducible exact Le.refl _
    | with_reducible exact Le.f _
    | with_reducible refine Le.t ?_ ?_
    | with_reducible refine Le.g ?_
    | with_reducible refine Le.s (fun _ => ?_) (fun _ => ?_)
    | with_reducible refine Le.c ?_ (fun _ => ?_)
    | with_reducible assumption
    | with_reducible apply waqk
    | with_reducible refine Le.bnd ?_
    | with_reducible intro _
theorem wabm (x14 : Int) : Le (wnz x14) (wqp x14) := by
  unfold wnz wqp
  apply waql
  all_goals assumption
theorem wyq (c15 : (Int)) (c16 : (Int)) (q17 q18 : (Yd)) (hq19 : ∀ h, Le (q17 h) (q18 h)) (c20 : Int) (x21 : Int × Y2) : Le (wgp (c15, (c16, (q17, c20))) x21).ev (wfm (c15, (c16, (q18, c20))) x21).ev := by
  unfold wgp wfm
  try dsimp only
  repeat' first
    | with_reducible exact Le.refl _
    | with_reducible exact Le.f _
    | with_reducible refine Le.t ?_ ?_
    | with_reducible refine Le.g ?_
    | with_reducible refine Le.s (fun _ => ?_) (fun _ => ?_)
    | with_reducible refine Le.c ?_ (fun _ => ?_)
    | with_reducible assumption
    | with_reducible apply hq19
    | with_reducible refine Le.bnd ?_
    | with_reducible intro _
theorem wyr (c22 : (Int)) (c23 : (Int)) (q24 q25 : (Yd)) (hq26 : ∀ h, Le (q24 h) (q25 h)) (c27 : Int) (x28 : Int × Y2) : Le (wgq (c22, (c23, (q24, c27))) x28) (wjk (c22, (c23, (q25, c27))) x28) := by
  unfold wgq wjk
  refine Le.it (fun v => ?_) _ _
  apply wyq
  all_goals assumption
theorem wys (c29 : (Int)) (c30 : (Int)) (q31 q32 : HL [y1, y1] → Option (Int)) (hq33 : ∀ h, Le (q31 h) (q32 h)) (x34 : Int × Y2) : Le (wgr (c29, (c30, q31)) x34).ev (wfn (c29, (c30, q32)) x34).ev := by
  unfold wgr wfn
  try dsimp only
  repeat' first
    | with_reducible exact Le.refl _
    | with_reducible exact Le.f _
    | with_reducible refine Le.t ?_ ?_
    | with_reducible refine Le.g ?_
    | with_reducible refine Le.s (fun _ => ?_) (fun _ => ?_)
    | with_reducible refine Le.c ?_ (fun _ => ?_)
    | with_reducible assumption
    | with_reducible apply hq33
    | with_reducible apply wyr
    | with_reducible refine Le.bnd ?_
    | with_reducible intro _
theorem wyt (c35 : (Int)) (c36 : (Int)) (q37 q38 : HL [y1, y1] → Option (Int)) (hq39 : ∀ h, Le (q37 h) (q38 h)) (x40 : Int × Y2) : Le (wgs (c35, (c36, q37)) x40) (wjl (c35, (c36, q38)) x40) := by
  unfold wgs wjl
  refine Le.it (fun v => ?_) _ _
  apply wys
  all_goals assumption
theorem waqm (x41 : Int) (x42 : Int) (q43 q44 : Yd) (hq45 : ∀ h, Le (q43 h) (q44 h)) (x46 : List Y1) : Le (wtd x41 x42 q43 x46).ev (wvl x41 x42 q44 x46).ev := by
  unfold wtd wvl
  try dsimp only
  repeat' first
    | with_reducible exact Le.refl _
    | with_reducible exact Le.f _
    | with_reducible refine Le.t ?_ ?_
    | with_reducible refine Le.g ?_
    | with_reducible refine Le.s (fun _ => ?_) (fun _ => ?_)
    | with_reducible refine Le.c ?_ (fun _ => ?_)
    | with_reducible assumption
    | with_reducible apply hq45
    | with_reducible apply wyt
    | with_reducible refine Le.bnd ?_
    | with_reducible intro _
theorem waqn (x47 : Int) (x48 : Int) (q49 q50 : Yd) (hq51 : ∀ h, Le (q49 h) (q50 h)) (x52 : List Y1) : Le (wte x47 x48 q49 x52) (wvm x47 x48 q50 x52) := by
  unfold wte wvm
  apply waqm
  all_goals assumption
theorem waqo (x53 : Int) : Le (wtf x53).ev (wvq x53).ev := by
  unfold wtf wvq
  try dsimp only
  repeat' first
    | with_reducible exact Le.refl _
    | with_reducible exact Le.f _
    | with_reducible refine Le.t ?_ ?_
    | with_reducible refine Le.g ?_
    | with_reducible refine Le.s (fun _ => ?_) (fun _ => ?_)
    | with_reducible refine Le.c ?_ (fun _ => ?_)
    | with_reducible assumption
    | with_reducible apply wabm
    | with_reducible refine Le.bnd ?_
    | with_reducible intro _
theorem waqp (x54 : Int) : Le (wtg x54) (wvr x54) := by
  unfold wtg wvr
  apply waqo
  all_goals assumption
theorem waqq (x55 : Int) : Le (wth x55).ev (wvs x55).ev := by
  unfold wth wvs
  try dsimp only
  repeat' first
    | with_reducible exact Le.refl _
    | with_reducible exact Le.f _
    | with_reducible refine Le.t ?_ ?_
    | with_reducible refine Le.g ?_
    | with_reducible refine Le.s (fun _ => ?_) (fun _ => ?_)
    | with_reducible refine Le.c ?_ (fun _ => ?_)
    | with_reducible assumption
    | with_reducible refine Le.bnd ?_
    | with_reducible intro _
theorem waqr (x56 : Int) : Le (wti x56) (wvt x56) := by
  unfold wti wvt
  apply waqq
  all_goals assumption
theorem wyu (x57 : Int × Yf) (x58 : Int × (Y2 × Int)) : Le (wgt x57 x58).ev (wfo x57 x58).ev := by
  unfold wgt wfo
  try dsimp only
  repeat' first
    | with_reducible exact Le.refl _
    | with_reducible exact Le.f _
    | with_reducible refine Le.t ?_ ?_
    | with_reducible refine Le.g ?_
    | with_reducible refine Le.s (fun _ => ?_) (fun _ => ?_)
    | with_reducible refine Le.c ?_ (fun _ => ?_)
    | with_reducible assumption
    | with_reducible apply waqr
    | with_reducible refine Le.bnd ?_
    | with_reducible intro _
theorem wyv (x59 : Int × Yf) (x60 : Int × (Y2 × Int)) : Le (wgu x59 x60) (wjm x59 x60) := by
  unfold wgu wjm
  refine Le.it (fun v => ?_) _ _
  apply wyu
  all_goals assumption
theorem waqs (x61 : Int) (x62 : Int) (q63 q64 : Yd) (hq65 : ∀ h, Le (q63 h) (q64 h)) (x66 : List Y1) : Le (wtj x61 x62 q63 x66).ev (wvu x61 x62 q64 x66).ev := by
  unfold wtj wvu
  try dsimp only
  repeat' first
    | with_reducible exact Le.refl _
    | with_reducible exact Le.f _
    | with_reducible refine Le.t ?_ ?_
    | with_reducible refine Le.g ?_
    | with_reducible refine Le.s (fun _ => ?_) (fun _ => ?_)
    | with_reducible refine Le.c ?_ (fun _ => ?_)
    | with_reducible assumption
    | with_reducible apply hq65
    | with_reducible apply waqp
    | with_reducible apply wyv
    | with_reducible refine Le.bnd ?_
    | with_reducible intro _
theorem waqt (x67 : Int) (x68 : Int) (q69 q70 : Yd) (hq71 : ∀ h, Le (q69 h) (q70 h)) (x72 : List Y1) : Le (wtk x67 x68 q69 x72) (wvv x67 x68 q70 x72) := by
  unfold wtk wvv
  apply waqs
  all_goals assumption
theorem waqu (x73 : List Y1) (x74 : Int) (x75 : Int) (q76 q77 : Yd) (hq78 : ∀ h, Le (q76 h) (q77 h)) (x79 : Int) : Le (wtl x73 x74 x75 q76 x79).ev (wvw x73 x74 x75 q77 x79).ev := by
  unfold wtl wvw
  try dsimp only
  repeat' first
    | with_reducible exact Le.refl _
    | with_reducible exact Le.f _
    | with_reducible refine Le.t ?_ ?_
    | with_reducible refine Le.g ?_
    | with_reducible refine Le.s (fun _ => ?_) (fun _ => ?_)
    | with_reducible refine Le.c ?_ (fun _ => ?_)
    | with_reducible assumption
    | with_reducible apply hq78
    | with_reducible refine Le.bnd ?_
    | with_reducible intro _
theorem waqv (x80 : List Y1) (x81 : Int) (x82 : Int) (q83 q84 : Yd) (hq85 : ∀ h, Le (q83 h) (q84 h)) (x86 : Int) : Le (wiu x80 x81 x82 q83 x86) (won x80 x81 x82 q84 x86) := by
  unfold wiu won
  apply waqu
  all_goals assumption
theorem waqw (x87 : List Y1) (x88 : Int) (x89 : Int) (x90 : Int) (q91 q92 : Yd) (hq93 : ∀ h, Le (q91 h) (q92 h)) (x94 : Int) : Le (wtm x87 x88 x89 x90 q91 x94).ev (wvx x87 x88 x89 x90 q92 x94).ev := by
  unfold wtm wvx
  try dsimp only
  repeat' first
    | with_reducible exact Le.refl _
    | with_reducible exact Le.f _
    | with_reducible refine Le.t ?_ ?_
    | with_reducible refine Le.g ?_
    | with_reducible refine Le.s (fun _ => ?_) (fun _ => ?_)
    | with_reducible refine Le.c ?_ (fun _ => ?_)
    | with_reducible assumption
    | with_reducible apply hq93
    | with_reducible apply waqv
    | with_reducible refine Le.bnd ?_
    | with_reducible intro _
theorem wabn (x95 : List Y1) (x96 : Int) (x97 : Int) (x98 : Int) (q99 q100 : Yd) (hq101 : ∀ h, Le (q99 h) (q100 h)) (x102 : Int) : Le (wiv x95 x96 x97 x98 q99 x102) (woo x95 x96 x97 x98 q100 x102) := by
  unfold wiv woo
  apply waqw
  all_goals assumption
theorem waqx (x103 : List Y1) (x104 : Int) (q105 q106 : Yd) (hq107 : ∀ h, Le (q105 h) (q106 h)) (x108 : Int) : Le (wtn x103 x104 q105 x108).ev (wvz x103 x104 q106 x108).ev := by
  unfold wtn wvz
  try dsimp only
  repeat' first
    | with_reducible exact Le.refl _
    | with_reducible exact Le.f _
    | with_reducible refine Le.t ?_ ?_
    | with_reducible refine Le.g ?_
    | with_reducible refine Le.s (fun _ => ?_) (fun _ => ?_)
    | with_reducible refine Le.c ?_ (fun _ => ?_)
    | with_reducible assumption
    | with_reducible apply hq107
    | with_reducible apply wabn
    | with_reducible refine Le.bnd ?_
    | with_reducible intro _
theorem waqy (x109 : List Y1) (x110 : Int) (q111 q112 : Yd) (hq113 : ∀ h, Le (q111 h) (q112 h)) (x114 : Int) : Le (wiw x109 x110 q111 x114) (wop x109 x110 q112 x114) := by
  unfold wiw wop
  apply waqx
  all_goals assumption
theorem waqz (x115 : List Y1) (x116 : Int) (x117 : Int) (q118 q119 : Yd) (hq120 : ∀ h, Le (q118 h) (q119 h)) : Le (wto x115 x116 x117 q118).ev (wwa x115 x116 x117 q119).ev := by
  unfold wto wwa
  try dsimp only
  repeat' first
    | with_reducible exact Le.refl _
    | with_reducible exact Le.f _
    | with_reducible refine Le.t ?_ ?_
    | with_reducible refine Le.g ?_
    | with_reducible refine Le.s (fun _ => ?_) (fun _ => ?_)
    | with_reducible refine Le.c ?_ (fun _ => ?_)
    | with_reducible assumption
    | with_reducible apply hq120
    | with_reducible apply waqy
    | with_reducible apply wabn
    | with_reducible refine Le.bnd ?_
    | with_reducible intro _
theorem wara (x121 : List Y1) (x122 : Int) (x123 : Int) (q124 q125 : Yd) (hq126 : ∀ h, Le (q124 h) (q125 h)) : Le (woa x121 x122 x123 q124) (wqq x121 x122 x123 q125) := by
  unfold woa wqq
  apply waqz
  all_goals assumption
theorem wyw (c127 : (Int)) (q128 q129 : (Yd)) (hq130 : ∀ h, Le (q128 h) (q129 h)) (c131 : (Int)) (c132 : List Y1) (x133 : Int) : Le (wgv (c127, (q128, (c131, c132))) x133).ev (wfp (c127, (q129, (c131, c132))) x133).ev := by
  unfold wgv wfp
  try dsimp only
  repeat' first
    | with_reducible exact Le.refl _
    | with_reducible exact Le.f _
    | with_reducible refine Le.t ?_ ?_
    | with_reducible refine Le.g ?_
    | with_reducible refine Le.s (fun _ => ?_) (fun _ => ?_)
    | with_reducible refine Le.c ?_ (fun _ => ?_)
    | with_reducible assumption
    | with_reducible apply hq130
    | with_reducible refine Le.bnd ?_
    | with_reducible intro _
theorem wyx (c134 : (Int)) (q135 q136 : (Yd)) (hq137 : ∀ h, Le (q135 h) (q136 h)) (c138 : (Int)) (c139 : List Y1) (x140 : Int) : Le (wgw (c134, (q135, (c138, c139))) x140) (wjn (c134, (q136, (c138, c139))) x140) := by
  unfold wgw wjn
  refine Le.it (fun v => ?_) _ _
  apply wyw
  all_goals assumption
theorem wyy (c141 : (Int)) (q142 q143 : (Yd)) (hq144 : ∀ h, Le (q142 h) (q143 h)) (c145 : (Int)) (c146 : List Y1) (x147 : Int) : Le (wgx (c141, (q142, (c145, c146))) x147).ev (wfq (c141, (q143, (c145, c146))) x147).ev := by
  unfold wgx wfq
  try dsimp only
  repeat' first
    | with_reducible exact Le.refl _
    | with_reducible exact Le.f _
    | with_reducible refine Le.t ?_ ?_
    | with_reducible refine Le.g ?_
    | with_reducible refine Le.s (fun _ => ?_) (fun _ => ?_)
    | with_reducible refine Le.c ?_ (fun _ => ?_)
    | with_reducible assumption
    | with_reducible apply hq144
    | with_reducible refine Le.bnd ?_
    | with_reducible intro _
theorem wyz (c148 : (Int)) (q149 q150 : (Yd)) (hq151 : ∀ h, Le (q149 h) (q150 h)) (c152 : (Int)) (c153 : List Y1) (x154 : Int) : Le (wgy (c148, (q149, (c152, c153))) x154) (wjo (c148, (q150, (c152, c153))) x154) := by
  unfold wgy wjo
  refine Le.it (fun v => ?_) _ _
  apply wyy
  all_goals assumption
theorem wza (c155 : (Int)) (q156 q157 : (Yd)) (hq158 : ∀ h, Le (q156 h) (q157 h)) (c159 : (Int)) (c160 : List Y1) (x161 : Int) : Le (wgz (c155, (q156, (c159, c160))) x161).ev (wfr (c155, (q157, (c159, c160))) x161).ev := by
  unfold wgz wfr
  try dsimp only
  repeat' first
    | with_reducible exact Le.refl _
    | with_reducible exact Le.f _
    | with_reducible refine Le.t ?_ ?_
    | with_reducible refine Le.g ?_
    | with_reducible refine Le.s (fun _ => ?_) (fun _ => ?_)
    | with_reducible refine Le.c ?_ (fun _ => ?_)
    | with_reducible assumption
    | with_reducible apply hq158
    | with_reducible refine Le.bnd ?_
    | with_reducible intro _
theorem wzb (c162 : (Int)) (q163 q164 : (Yd)) (hq165 : ∀ h, Le (q163 h) (q164 h)) (c166 : (Int)) (c167 : List Y1) (x168 : Int) : Le (wha (c162, (q163, (c166, c167))) x168) (wjp (c162, (q164, (c166, c167))) x168) := by
  unfold wha wjp
  refine Le.it (fun v => ?_) _ _
  apply wza
  all_goals assumption
theorem wzc (c169 : (Int)) (q170 q171 : (Yd)) (hq172 : ∀ h, Le (q170 h) (q171 h)) (c173 : (Int)) (c174 : List Y1) (x175 : Int) : Le (whb (c169, (q170, (c173, c174))) x175).ev (wft (c169, (q171, (c173, c174))) x175).ev := by
  unfold whb wft
  try dsimp only
  repeat' first
    | with_reducible exact Le.refl _
    | with_reducible exact Le.f _
    | with_reducible refine Le.t ?_ ?_
    | with_reducible refine Le.g ?_
    | with_reducible refine Le.s (fun _ => ?_) (fun _ => ?_)
    | with_reducible refine Le.c ?_ (fun _ => ?_)
    | with_reducible assumption
    | with_reducible apply hq172
    | with_reducible refine Le.bnd ?_
    | with_reducible intro _
theorem wzd (c176 : (Int)) (q177 q178 : (Yd)) (hq179 : ∀ h, Le (q177 h) (q178 h)) (c180 : (Int)) (c181 : List Y1) (x182 : Int) : Le (whc (c176, (q177, (c180, c181))) x182) (wjq (c176, (q178, (c180, c181))) x182) := by
  unfold whc wjq
  refine Le.it (fun v => ?_) _ _
  apply wzc
  all_goals assumption
theorem wze (c183 : (Int)) (q184 q185 : HL [y1, y1] → Option (Int)) (hq186 : ∀ h, Le (q184 h) (q185 h)) (x187 : Int × Yl) : Le (whd (c183, q184) x187).ev (wfu (c183, q185) x187).ev := by
  unfold whd wfu
  try dsimp only
  repeat' first
    | with_reducible exact Le.refl _
    | with_reducible exact Le.f _
    | with_reducible refine Le.t ?_ ?_
    | with_reducible refine Le.g ?_
    | with_reducible refine Le.s (fun _ => ?_) (fun _ => ?_)
    | with_reducible refine Le.c ?_ (fun _ => ?_)
    | with_reducible assumption
    | with_reducible apply hq186
    | with_reducible apply wzb
    | with_reducible apply wzd
    | with_reducible refine Le.bnd ?_
    | with_reducible intro _
theorem wzf (c188 : (Int)) (q189 q190 : HL [y1, y1] → Option (Int)) (hq191 : ∀ h, Le (q189 h) (q190 h)) (x192 : Int × Yl) : Le (whe (c188, q189) x192) (wjr (c188, q190) x192) := by
  unfold whe wjr
  refine Le.it (fun v => ?_) _ _
  apply wze
  all_goals assumption
theorem warb (x193 : Int) (x194 : Int) (x195 : Int) (q196 q197 : Yd) (hq198 : ∀ h, Le (q196 h) (q197 h)) (x199 : List Y1) : Le (wtp x193 x194 x195 q196 x199).ev (wwb x193 x194 x195 q197 x199).ev := by
  unfold wtp wwb
  try dsimp only
  repeat' first
    | with_reducible exact Le.refl _
    | with_reducible exact Le.f _
    | with_reducible refine Le.t ?_ ?_
    | with_reducible refine Le.g ?_
    | with_reducible refine Le.s (fun _ => ?_) (fun _ => ?_)
    | with_reducible refine Le.c ?_ (fun _ => ?_)
    | with_reducible assumption
    | with_reducible apply hq198
    | with_reducible apply wyx
    | with_reducible apply wyz
    | with_reducible apply wzf
    | with_reducible refine Le.bnd ?_
    | with_reducible intro _
theorem warc (x200 : Int) (x201 : Int) (x202 : Int) (q203 q204 : Yd) (hq205 : ∀ h, Le (q203 h) (q204 h)) (x206 : List Y1) : Le (wam x200 x201 x202 q203 x206) (wbh x200 x201 x202 q204 x206) := by
  unfold wam wbh
  apply warb
  all_goals assumption
theorem wzg (rec207 rec208 : (Int) → (Int) → (Int) → (Yd) → Y2 → Option Y2) (hr209 : ∀ (x210 : (Int)) (x211 : (Int)) (x212 : (Int)) (q213 q214 : (Yd)) (hq215 : ∀ h, Le (q213 h) (q214 h)) (x216 : Y2), Le (rec207 x210 x211 x212 q213 x216) (rec208 x210 x211 x212 q214 x216)) (q217 q218 : Yd) (hq219 : ∀ h, Le (q217 h) (q218 h)) (x220 : Int × Yw) : Le (whf rec207 q217 x220).ev (wfv rec208 q218 x220).ev := by
  unfold whf wfv
  try dsimp only
  repeat' first
    | with_reducible exact Le.refl _
    | with_reducible exact Le.f _
    | with_reducible refine Le.t ?_ ?_
    | with_reducible refine Le.g ?_
    | with_reducible refine Le.s (fun _ => ?_) (fun _ => ?_)
    | with_reducible refine Le.c ?_ (fun _ => ?_)
    | with_reducible assumption
    | with_reducible apply hr209
    | with_reducible apply hq219
    | with_reducible apply waqn
    | with_reducible apply waqt
    | with_reducible apply wara
    | with_reducible apply warc
    | with_reducible refine Le.bnd ?_
    | with_reducible intro _
theorem wzh (rec221 rec222 : (Int) → (Int) → (Int) → (Yd) → Y2 → Option Y2) (hr223 : ∀ (x224 : (Int)) (x225 : (Int)) (x226 : (Int)) (q227 q228 : (Yd)) (hq229 : ∀ h, Le (q227 h) (q228 h)) (x230 : Y2), Le (rec221 x224 x225 x226 q227 x230) (rec222 x224 x225 x226 q228 x230)) (q231 q232 : Yd) (hq233 : ∀ h, Le (q231 h) (q232 h)) (x234 : Int × Yw) : Le (whg rec221 q231 x234) (wjv rec222 q232 x234) := by
  unfold whg wjv
  refine Le.it (fun v => ?_) _ _
  apply wzg
  all_goals assumption
theorem ward (rec235 rec236 : (Int) → (Int) → (Int) → (Yd) → Y2 → Option Y2) (hr237 : ∀ (x238 : (Int)) (x239 : (Int)) (x240 : (Int)) (q241 q242 : (Yd)) (hq243 : ∀ h, Le (q241 h) (q242 h)) (x244 : Y2), Le (rec235 x238 x239 x240 q241 x244) (rec236 x238 x239 x240 q242 x244)) (x245 : Int) (x246 : Int) (x247 : Int) (q248 q249 : Yd) (hq250 : ∀ h, Le (q248 h) (q249 h)) (x251 : List Y1) : Le (wtq rec235 x245 x246 x247 q248 x251).ev (wwc rec236 x245 x246 x247 q249 x251).ev := by
  unfold wtq wwc
  try dsimp only
  repeat' first
    | with_reducible exact Le.refl _
    | with_reducible exact Le.f _
    | with_reducible refine Le.t ?_ ?_
    | with_reducible refine Le.g ?_
    | with_reducible refine Le.s (fun _ => ?_) (fun _ => ?_)
    | with_reducible refine Le.c ?_ (fun _ => ?_)
    | with_reducible assumption
    | with_reducible apply hr237
    | with_reducible apply hq250
    | with_reducible apply wzh
    | with_reducible refine Le.bnd ?_
    | with_reducible intro _
theorem wabo : ∀ (n : Nat) (x252 : (Int)) (x253 : (Int)) (x254 : (Int)) (q255 q256 : (Yd)) (hq257 : ∀ h, Le (q255 h) (q256 h)) (x258 : Y2), Le (wob n x252 x253 x254 q255 x258) (wfw n x252 x253 x254 q256 x258)
  | 0 => by intros; exact Le.none _
  | n + 1 => by
    intros
    unfold wob wfw
    apply ward
    · exact wabo n
    all_goals assumption
theorem ware (q259 q260 : Yd) (hq261 : ∀ h, Le (q259 h) (q260 h)) (x262 : List Y1) : Le (wtr q259 x262).ev (wwe q260 x262).ev := by
  unfold wtr wwe
  try dsimp only
  repeat' first
    | with_reducible exact Le.refl _
    | with_reducible exact Le.f _
    | with_reducible refine Le.t ?_ ?_
    | with_reducible refine Le.g ?_
    | with_reducible refine Le.s (fun _ => ?_) (fun _ => ?_)
    | with_reducible refine Le.c ?_ (fun _ => ?_)
    | with_reducible assumption
    | with_reducible apply hq261
    | with_reducible apply wabm
    | with_reducible apply wabo
    | with_reducible refine Le.bnd ?_
    | with_reducible intro _
theorem warf (q263 q264 : Yd) (hq265 : ∀ h, Le (q263 h) (q264 h)) (x266 : List Y1) : Le (wts q263 x266) (wwf q264 x266) := by
  unfold wts wwf
  apply ware
  all_goals assumption
theorem wbbc (x267 : Int) : Le (wamq x267).ev (T_zc x267).ev := by
  unfold wamq T_zc
  try dsimp only
  repeat' first
    | with_reducible exact Le.refl _
    | with_reducible exact Le.f _
    | with_reducible refine Le.t ?_ ?_
    | with_reducible refine Le.g ?_
    | with_reducible refine Le.s (fun _ => ?_) (fun _ => ?_)
    | with_reducible refine Le.c ?_ (fun _ => ?_)
    | with_reducible assumption
    | with_reducible refine Le.bnd ?_
    | with_reducible intro _
theorem wbbd (x268 : Int) : Le (wyo x268) (F_zc x268) := by
  unfold wyo F_zc
  apply wbbc
  all_goals assumption
theorem wbbe (x269 : Int) (x270 : Int) : Le (wamr x269 x270).ev (T_za x269 x270).ev := by
  unfold wamr T_za
  try dsimp only
  repeat' first
    | with_reducible exact Le.refl _
    | with_reducible exact Le.f _
    | with_reducible refine Le.t ?_ ?_
    | with_reducible refine Le.g ?_
    | with_reducible refine Le.s (fun _ => ?_) (fun _ => ?_)
    | with_reducible refine Le.c ?_ (fun _ => ?_)
    | with_reducible assumption
    | with_reducible apply wbbd
    | with_reducible refine Le.bnd ?_
    | with_reducible intro _
theorem warg (x271 : Int) (x272 : Int) : Le (wyp x271 x272) (wwh x271 x272) := by
  unfold wyp wwh
  apply wbbe
  all_goals assumption
theorem wzi (x273 : Y1 × (Y1 × (Y1 × Int))) (x274 : Int) : Le (whh x273 x274).ev (wfx x273 x274).ev := by
  unfold whh wfx
  try dsimp only
  repeat' first
    | with_reducible exact Le.refl _
    | with_reducible exact Le.f _
    | with_reducible refine Le.t ?_ ?_
    | with_reducible refine Le.g ?_
    | with_reducible refine Le.s (fun _ => ?_) (fun _ => ?_)
    | with_reducible refine Le.c ?_ (fun _ => ?_)
    | with_reducible assumption
    | with_reducible apply warg
    | with_reducible refine Le.bnd ?_
    | with_reducible intro _
theorem wzj (x275 : Y1 × (Y1 × (Y1 × Int))) (x276 : Int) : Le (whj x275 x276) (wjw x275 x276) := by
  unfold whj wjw
  refine Le.it (fun v => ?_) _ _
  apply wzi
  all_goals assumption
theorem warh (x277 : Y1) (x278 : Y1) : Le (wtu x277 x278).ev (wwi x277 x278).ev := by
  unfold wtu wwi
  try dsimp only
  repeat' first
    | with_reducible exact Le.refl _
    | with_reducible exact Le.f _
    | with_reducible refine Le.t ?_ ?_
    | with_reducible refine Le.g ?_
    | with_reducible refine Le.s (fun _ => ?_) (fun _ => ?_)
    | with_reducible refine Le.c ?_ (fun _ => ?_)
    | with_reducible assumption
    | with_reducible apply wzj
    | with_reducible refine Le.bnd ?_
    | with_reducible intro _
theorem wari (x279 : Y1) (x280 : Y1) : Le (wtv x279 x280) (wwj x279 x280) := by
  unfold wtv wwj
  apply warh
  all_goals assumption
theorem wamw (x281 : Int × (Y1 × Int)) (x282 : Int) : Le (wku x281 x282).ev (wak x281 x282).ev := by
  unfold wku wak
  try dsimp only
  repeat' first
    | with_reducible exact Le.refl _
    | with_reducible exact Le.f _
    | with_reducible refine Le.t ?_ ?_
    | with_reducible refine Le.g ?_
    | with_reducible refine Le.s (fun _ => ?_) (fun _ => ?_)
    | with_reducible refine Le.c ?_ (fun _ => ?_)
    | with_reducible assumption
    | with_reducible refine Le.bnd ?_
    | with_reducible intro _
theorem wamx (x283 : Int × (Y1 × Int)) (x284 : Int) : Le (wkv x283 x284) (wme x283 x284) := by
  unfold wkv wme
  refine Le.it (fun v => ?_) _ _
  apply wamw
  all_goals assumption
theorem wbbf (x285 : Y1) : Le (wams x285).ev (T_zb x285).ev := by
  unfold wams T_zb
  try dsimp only
  repeat' first
    | with_reducible exact Le.refl _
    | with_reducible exact Le.f _
    | with_reducible refine Le.t ?_ ?_
    | with_reducible refine Le.g ?_
    | with_reducible refine Le.s (fun _ => ?_) (fun _ => ?_)
    | with_reducible refine Le.c ?_ (fun _ => ?_)
    | with_reducible assumption
    | with_reducible apply wamx
    | with_reducible refine Le.bnd ?_
    | with_reducible intro _
theorem wbbg (x286 : Y1) : Le (wamt x286) (F_zb x286) := by
  unfold wamt F_zb
  apply wbbf
  all_goals assumption
theorem warj (x287 : Y1) (x288 : Y1) : Le (wtw x287 x288).ev (wwk x287 x288).ev := by
  unfold wtw wwk
  try dsimp only
  repeat' first
    | with_reducible exact Le.refl _
    | with_reducible exact Le.f _
    | with_reducible refine Le.t ?_ ?_
    | with_reducible refine Le.g ?_
    | with_reducible refine Le.s (fun _ => ?_) (fun _ => ?_)
    | with_reducible refine Le.c ?_ (fun _ => ?_)
    | with_reducible assumption
    | with_reducible apply warg
    | with_reducible apply wari
    | with_reducible apply wbbg
    | with_reducible refine Le.bnd ?_
    | with_reducible intro _
theorem wark (x289 : Y1) (x290 : Y1) : Le (wtx x289 x290) (wwl x289 x290) := by
  unfold wtx wwl
  apply warj
  all_goals assumption
theorem wzk (x291 : Int) (x292 : Int × Y2) : Le (whk x291 x292).ev (wfy x291 x292).ev := by
  unfold whk wfy
  try dsimp only
  repeat' first
    | with_reducible exact Le.refl _
    | with_reducible exact Le.f _
    | with_reducible refine Le.t ?_ ?_
    | with_reducible refine Le.g ?_
    | with_reducible refine Le.s (fun _ => ?_) (fun _ => ?_)
    | with_reducible refine Le.c ?_ (fun _ => ?_)
    | with_reducible assumption
    | with_reducible apply wbbb
    | with_reducible refine Le.bnd ?_
    | with_reducible intro _
theorem wzl (x293 : Int) (x294 : Int × Y2) : Le (whl x293 x294) (wjx x293 x294) := by
  unfold whl wjx
  refine Le.it (fun v => ?_) _ _
  apply wzk
  all_goals assumption
theorem warl (x295 : Int) : Le (wty x295).ev (wwm x295).ev := by
  unfold wty wwm
  try dsimp only
  repeat' first
    | with_reducible exact Le.refl _
    | with_reducible exact Le.f _
    | with_reducible refine Le.t ?_ ?_
    | with_reducible refine Le.g ?_
    | with_reducible refine Le.s (fun _ => ?_) (fun _ => ?_)
    | with_reducible refine Le.c ?_ (fun _ => ?_)
    | with_reducible assumption
    | with_reducible apply wzl
    | with_reducible apply warf
    | with_reducible apply wark
    | with_reducible refine Le.bnd ?_
    | with_reducible intro _
theorem warm (x296 : Int) : Le (wtz x296) (wjy x296) := by
  unfold wtz wjy
  apply warl
  all_goals assumption
theorem wzm (x297 : Int × Int) (x298 : Int × Y1) : Le (whm x297 x298).ev (wbb x297 x298).ev := by
  unfold whm wbb
  try dsimp only
  repeat' first
    | with_reducible exact Le.refl _
    | with_reducible exact Le.f _
    | with_reducible refine Le.t ?_ ?_
    | with_reducible refine Le.g ?_
    | with_reducible refine Le.s (fun _ => ?_) (fun _ => ?_)
    | with_reducible refine Le.c ?_ (fun _ => ?_)
    | with_reducible assumption
    | with_reducible refine Le.bnd ?_
    | with_reducible intro _
theorem wzn (x299 : Int × Int) (x300 : Int × Y1) : Le (whn x299 x300) (wga x299 x300) := by
  unfold whn wga
  refine Le.it (fun v => ?_) _ _
  apply wzm
  all_goals assumption
theorem warn (x301 : Int) (x302 : Int) : Le (wua x301 x302).ev (wrk x301 x302).ev := by
  unfold wua wrk
  try dsimp only
  repeat' first
    | with_reducible exact Le.refl _
    | with_reducible exact Le.f _
    | with_reducible refine Le.t ?_ ?_
    | with_reducible refine Le.g ?_
    | with_reducible refine Le.s (fun _ => ?_) (fun _ => ?_)
    | with_reducible refine Le.c ?_ (fun _ => ?_)
    | with_reducible assumption
    | with_reducible apply wzn
    | with_reducible refine Le.bnd ?_
    | with_reducible intro _
theorem waro (x303 : Int) (x304 : Int) : Le (wub x303 x304) (wkk x303 x304) := by
  unfold wub wkk
  apply warn
  all_goals assumption
theorem wzo (x305 : Y1 × Y1) (x306 : Int) : Le (whp x305 x306).ev (wgb x305 x306).ev := by
  unfold whp wgb
  try dsimp only
  repeat' first
    | with_reducible exact Le.refl _
    | with_reducible exact Le.f _
    | with_reducible refine Le.t ?_ ?_
    | with_reducible refine Le.g ?_
    | with_reducible refine Le.s (fun _ => ?_) (fun _ => ?_)
    | with_reducible refine Le.c ?_ (fun _ => ?_)
    | with_reducible assumption
    | with_reducible refine Le.bnd ?_
    | with_reducible intro _
theorem wzp (x307 : Y1 × Y1) (x308 : Int) : Le (whq x307 x308) (wkl x307 x308) := by
  unfold whq wkl
  refine Le.it (fun v => ?_) _ _
  apply wzo
  all_goals assumption
theorem warp (x309 : Y1) (x310 : Y1) : Le (wuc x309 x310).ev (wwz x309 x310).ev := by
  unfold wuc wwz
  try dsimp only
  repeat' first
    | with_reducible exact Le.refl _
    | with_reducible exact Le.f _
    | with_reducible refine Le.t ?_ ?_
    | with_reducible refine Le.g ?_
    | with_reducible refine Le.s (fun _ => ?_) (fun _ => ?_)
    | with_reducible refine Le.c ?_ (fun _ => ?_)
    | with_reducible assumption
    | with_reducible apply wzp
    | with_reducible refine Le.bnd ?_
    | with_reducible intro _
theorem warq (x311 : Y1) (x312 : Y1) : Le (wud x311 x312) (wxa x311 x312) := by
  unfold wud wxa
  apply warp
  all_goals assumption
theorem wzq (x313 : Int × (Y2 × Yam)) (x314 : Int) : Le (whr x313 x314).ev (wgc x313 x314).ev := by
  unfold whr wgc
  try dsimp only
  repeat' first
    | with_reducible exact Le.refl _
    | with_reducible exact Le.f _
    | with_reducible refine Le.t ?_ ?_
    | with_reducible refine Le.g ?_
    | with_reducible refine Le.s (fun _ => ?_) (fun _ => ?_)
    | with_reducible refine Le.c ?_ (fun _ => ?_)
    | with_reducible assumption
    | with_reducible apply warq
    | with_reducible refine Le.bnd ?_
    | with_reducible intro _
theorem wzr (x315 : Int × (Y2 × Yam)) (x316 : Int) : Le (whs x315 x316) (wkm x315 x316) := by
  unfold whs wkm
  refine Le.it (fun v => ?_) _ _
  apply wzq
  all_goals assumption
theorem wzs (x317 : Int) (x318 : Y2 × Int) : Le (wht x317 x318).ev (wgd x317 x318).ev := by
  unfold wht wgd
  try dsimp only
  repeat' first
    | with_reducible exact Le.refl _
    | with_reducible exact Le.f _
    | with_reducible refine Le.t ?_ ?_
    | with_reducible refine Le.g ?_
    | with_reducible refine Le.s (fun _ => ?_) (fun _ => ?_)
    | with_reducible refine Le.c ?_ (fun _ => ?_)
    | with_reducible assumption
    | with_reducible apply waro
    | with_reducible apply wzr
    | with_reducible refine Le.bnd ?_
    | with_reducible intro _
theorem wzt (x319 : Int) (x320 : Y2 × Int) : Le (whu x319 x320) (wkn x319 x320) := by
  unfold whu wkn
  refine Le.it (fun v => ?_) _ _
  apply wzs
  all_goals assumption
theorem warr (x321 : Int) : Le (wue x321).ev (wxb x321).ev := by
  unfold wue wxb
  try dsimp only
  repeat' first
    | with_reducible exact Le.refl _
    | with_reducible exact Le.f _
    | with_reducible refine Le.t ?_ ?_
    | with_reducible refine Le.g ?_
    | with_reducible refine Le.s (fun _ => ?_) (fun _ => ?_)
    | with_reducible refine Le.c ?_ (fun _ => ?_)
    | with_reducible assumption
    | with_reducible apply wzt
    | with_reducible refine Le.bnd ?_
    | with_reducible intro _
theorem wars (x322 : Int) : Le (wuf x322) (wou x322) := by
  unfold wuf wou
  apply warr
  all_goals assumption
end Go.Proofs.YtnagpmhaddfgmaaGreat
