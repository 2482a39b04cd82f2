/-
 The answer of a copy with counted rounds is the answer of the function. No conditions.
-/
import Derived.Test.YtnagpmhaddfgmaaGreatEM1
namespace Go.Proofs.YtnagpmhaddfgmaaGreat
open List (length getD set)
open Int (toNat)
open IntKind (wrap)
theorem wbue (x1 : Int) (x2 : Int) : Le (waqb x1 x2).ev (wavi x1 x2).ev := by
  unfold waqb wavi
  try dsimp only
  repeat' first
    | with_reducible exact Le.refl _
    | with_reducible exact Le.f _
    | with_reducible refine Le.t ?_ ?_
    | with_reducible refine Le.g ?_
    | with_reducible refine Le.s (fun _ => ?_) (fun _ => ?_)
    | with_reducible refine Le.c ?_ (fun _ => ?_)
    | with_reducible assumption
    | with_reducible refine Le.bnd ?_
    | with_reducible intro _
theorem wbcg (x3 : Int) (x4 : Int) : Le (wafi x3 x4) (wsg x3 x4) := by
  unfold wafi wsg
  apply wbue
  all_goals assumption
theorem wcgj (x5 : Int) : Le (wbou x5).ev (T_zc x5).ev := by
  unfold wbou T_zc
  try dsimp only
  repeat' first
    | with_reducible exact Le.refl _
    | with_reducible exact Le.f _
    | with_reducible refine Le.t ?_ ?_
    | with_reducible refine Le.g ?_
    | with_reducible refine Le.s (fun _ => ?_) (fun _ => ?_)
    | with_reducible refine Le.c ?_ (fun _ => ?_)
    | with_reducible assumption
    | with_reducible refine Le.bnd ?_
    | with_reducible intro _
theorem wcgk (x6 : Int) : Le (wayo x6) (F_zc x6) := by
  unfold wayo F_zc
  apply wcgj
  all_goals assumption
theorem wcgl (x7 : Int) (x8 : Int) : Le (wbov x7 x8).ev (T_za x7 x8).ev := by
  unfold wbov T_za
  try dsimp only
  repeat' first
    | with_reducible exact Le.refl _
    | with_reducible exact Le.f _
    | with_reducible refine Le.t ?_ ?_
    | with_reducible refine Le.g ?_
    | with_reducible refine Le.s (fun _ => ?_) (fun _ => ?_)
    | with_reducible refine Le.c ?_ (fun _ => ?_)
    | with_reducible assumption
    | with_reducible apply wcgk
    | with_reducible refine Le.bnd ?_
    | with_reducible intro _
theorem wbuf (x9 : Int) (x10 : Int) : Le (wayp x9 x10) (F_za x9 x10) := by
  unfold wayp F_za
  apply wcgl
  all_goals assumption
theorem wayq (x11 : Int) (x12 : Int × Y1) : Le (wtf x11 x12).ev (wsh x11 x12).ev := by
  unfold wtf wsh
  try dsimp only
  repeat' first
    | with_reducible exact Le.refl _
    | with_reducible exact Le.f _
    | with_reducible refine Le.t ?_ ?_
    | with_reducible refine Le.g ?_
    | with_reducible refine Le.s (fun _ => ?_) (fun _ => ?_)
    | with_reducible refine Le.c ?_ (fun _ => ?_)
    | with_reducible assumption
    | with_reducible apply wbcg
    | with_reducible refine Le.bnd ?_
    | with_reducible intro _
theorem wayr (x13 : Int) (x14 : Int × Y1) : Le (wtg x13 x14) (wzg x13 x14) := by
  unfold wtg wzg
  refine Le.it (fun v => ?_) _ _
  apply wayq
  all_goals assumption
theorem wbug (x15 : Int) : Le (waqc x15).ev (wavr x15).ev := by
  unfold waqc wavr
  try dsimp only
  repeat' first
    | with_reducible exact Le.refl _
    | with_reducible exact Le.f _
    | with_reducible refine Le.t ?_ ?_
    | with_reducible refine Le.g ?_
    | with_reducible refine Le.s (fun _ => ?_) (fun _ => ?_)
    | with_reducible refine Le.c ?_ (fun _ => ?_)
    | with_reducible assumption
    | with_reducible apply wayr
    | with_reducible refine Le.bnd ?_
    | with_reducible intro _
theorem wbch (x16 : Int) : Le (wafj x16) (woj x16) := by
  unfold wafj woj
  apply wbug
  all_goals assumption
theorem wbuh (x17 : Int) : Le (waqd x17).ev (waxc x17).ev := by
  unfold waqd waxc
  try dsimp only
  repeat' first
    | with_reducible exact Le.refl _
    | with_reducible exact Le.f _
    | with_reducible refine Le.t ?_ ?_
    | with_reducible refine Le.g ?_
    | with_reducible refine Le.s (fun _ => ?_) (fun _ => ?_)
    | with_reducible refine Le.c ?_ (fun _ => ?_)
    | with_reducible assumption
    | with_reducible refine Le.bnd ?_
    | with_reducible intro _
theorem wbui (x18 : Int) : Le (waqe x18) (waxd x18) := by
  unfold waqe waxd
  apply wbuh
  all_goals assumption
theorem wbuj (x19 : Int) : Le (waqf x19).ev (waxe x19).ev := by
  unfold waqf waxe
  try dsimp only
  repeat' first
    | with_reducible exact Le.refl _
    | with_reducible exact Le.f _
    | with_reducible refine Le.t ?_ ?_
    | with_reducible refine Le.g ?_
    | with_reducible refine Le.s (fun _ => ?_) (fun _ => ?_)
    | with_reducible refine Le.c ?_ (fun _ => ?_)
    | with_reducible assumption
    | with_reducible apply wbui
    | with_reducible refine Le.bnd ?_
    | with_reducible intro _
theorem wbci (x20 : Int) : Le (wafk x20) (wapb x20) := by
  unfold wafk wapb
  apply wbuj
  all_goals assumption
theorem wayt (c21 : (Int)) (c22 : (Int)) (q23 q24 : (Yd)) (hq25 : ∀ h, Le (q23 h) (q24 h)) (c26 : Int) (x27 : Int × Yc) : Le (wth (c21, (c22, (q23, c26))) x27).ev (wsn (c21, (c22, (q24, c26))) x27).ev := by
  unfold wth wsn
  try dsimp only
  repeat' first
    | with_reducible exact Le.refl _
    | with_reducible exact Le.f _
    | with_reducible refine Le.t ?_ ?_
    | with_reducible refine Le.g ?_
    | with_reducible refine Le.s (fun _ => ?_) (fun _ => ?_)
    | with_reducible refine Le.c ?_ (fun _ => ?_)
    | with_reducible assumption
    | with_reducible apply hq25
    | with_reducible refine Le.bnd ?_
    | with_reducible intro _
theorem wayu (c28 : (Int)) (c29 : (Int)) (q30 q31 : (Yd)) (hq32 : ∀ h, Le (q30 h) (q31 h)) (c33 : Int) (x34 : Int × Yc) : Le (wti (c28, (c29, (q30, c33))) x34) (wzp (c28, (c29, (q31, c33))) x34) := by
  unfold wti wzp
  refine Le.it (fun v => ?_) _ _
  apply wayt
  all_goals assumption
theorem wayv (c35 : (Int)) (c36 : (Int)) (q37 q38 : HL [y1, y1] → Option (Int)) (hq39 : ∀ h, Le (q37 h) (q38 h)) (x40 : Int × Yc) : Le (wtj (c35, (c36, q37)) x40).ev (wso (c35, (c36, q38)) x40).ev := by
  unfold wtj wso
  try dsimp only
  repeat' first
    | with_reducible exact Le.refl _
    | with_reducible exact Le.f _
    | with_reducible refine Le.t ?_ ?_
    | with_reducible refine Le.g ?_
    | with_reducible refine Le.s (fun _ => ?_) (fun _ => ?_)
    | with_reducible refine Le.c ?_ (fun _ => ?_)
    | with_reducible assumption
    | with_reducible apply hq39
    | with_reducible apply wayu
    | with_reducible refine Le.bnd ?_
    | with_reducible intro _
theorem wayw (c41 : (Int)) (c42 : (Int)) (q43 q44 : HL [y1, y1] → Option (Int)) (hq45 : ∀ h, Le (q43 h) (q44 h)) (x46 : Int × Yc) : Le (wtk (c41, (c42, q43)) x46) (wzq (c41, (c42, q44)) x46) := by
  unfold wtk wzq
  refine Le.it (fun v => ?_) _ _
  apply wayv
  all_goals assumption
theorem wbuk (x47 : Int) (x48 : Int) (q49 q50 : Yd) (hq51 : ∀ h, Le (q49 h) (q50 h)) (x52 : (List Nat) × Y2) : Le (waqg x47 x48 q49 x52).ev (waxg x47 x48 q50 x52).ev := by
  unfold waqg waxg
  try dsimp only
  repeat' first
    | with_reducible exact Le.refl _
    | with_reducible exact Le.f _
    | with_reducible refine Le.t ?_ ?_
    | with_reducible refine Le.g ?_
    | with_reducible refine Le.s (fun _ => ?_) (fun _ => ?_)
    | with_reducible refine Le.c ?_ (fun _ => ?_)
    | with_reducible assumption
    | with_reducible apply hq51
    | with_reducible apply wayw
    | with_reducible refine Le.bnd ?_
    | with_reducible intro _
theorem wbul (x53 : Int) (x54 : Int) (q55 q56 : Yd) (hq57 : ∀ h, Le (q55 h) (q56 h)) (x58 : (List Nat) × Y2) : Le (waqh x53 x54 q55 x58) (waxh x53 x54 q56 x58) := by
  unfold waqh waxh
  apply wbuk
  all_goals assumption
theorem wbum (x59 : Int) : Le (waqi x59).ev (waxl x59).ev := by
  unfold waqi waxl
  try dsimp only
  repeat' first
    | with_reducible exact Le.refl _
    | with_reducible exact Le.f _
    | with_reducible refine Le.t ?_ ?_
    | with_reducible refine Le.g ?_
    | with_reducible refine Le.s (fun _ => ?_) (fun _ => ?_)
    | with_reducible refine Le.c ?_ (fun _ => ?_)
    | with_reducible assumption
    | with_reducible apply wbci
    | with_reducible refine Le.bnd ?_
    | with_reducible intro _
theorem wbun (x60 : Int) : Le (waqj x60) (waxm x60) := by
  unfold waqj waxm
  apply wbum
  all_goals assumption
theorem wbuo (x61 : Int) : Le (waqk x61).ev (waxn x61).ev := by
  unfold waqk waxn
  try dsimp only
  repeat' first
    | with_reducible exact Le.refl _
    | with_reducible exact Le.f _
    | with_reducible refine Le.t ?_ ?_
    | with_reducible refine Le.g ?_
    | with_reducible refine Le.s (fun _ => ?_) (fun _ => ?_)
    | with_reducible refine Le.c ?_ (fun _ => ?_)
    | with_reducible assumption
    | with_reducible refine Le.bnd ?_
    | with_reducible intro _
theorem wbup (x62 : Int) : Le (waql x62) (waxo x62) := by
  unfold waql waxo
  apply wbuo
  all_goals assumption
theorem wayx (x63 : Int × Yg) (x64 : Int × (Yc × Int)) : Le (wtl x63 x64).ev (wsp x63 x64).ev := by
  unfold wtl wsp
  try dsimp only
  repeat' first
    | with_reducible exact Le.refl _
    | with_reducible exact Le.f _
    | with_reducible refine Le.t ?_ ?_
    | with_reducible refine Le.g ?_
    | with_reducible refine Le.s (fun _ => ?_) (fun _ => ?_)
    | with_reducible refine Le.c ?_ (fun _ => ?_)
    | with_reducible assumption
    | with_reducible apply wbup
    | with_reducible refine Le.bnd ?_
    | with_reducible intro _
theorem wayy (x65 : Int × Yg) (x66 : Int × (Yc × Int)) : Le (wtm x65 x66) (wzr x65 x66) := by
  unfold wtm wzr
  refine Le.it (fun v => ?_) _ _
  apply wayx
  all_goals assumption
theorem wbuq (x67 : Int) (x68 : Int) (q69 q70 : Yd) (hq71 : ∀ h, Le (q69 h) (q70 h)) (x72 : (List Nat) × Y2) : Le (waqm x67 x68 q69 x72).ev (waxp x67 x68 q70 x72).ev := by
  unfold waqm waxp
  try dsimp only
  repeat' first
    | with_reducible exact Le.refl _
    | with_reducible exact Le.f _
    | with_reducible refine Le.t ?_ ?_
    | with_reducible refine Le.g ?_
    | with_reducible refine Le.s (fun _ => ?_) (fun _ => ?_)
    | with_reducible refine Le.c ?_ (fun _ => ?_)
    | with_reducible assumption
    | with_reducible apply hq71
    | with_reducible apply wbun
    | with_reducible apply wayy
    | with_reducible refine Le.bnd ?_
    | with_reducible intro _
theorem wbur (x73 : Int) (x74 : Int) (q75 q76 : Yd) (hq77 : ∀ h, Le (q75 h) (q76 h)) (x78 : (List Nat) × Y2) : Le (waqn x73 x74 q75 x78) (waxq x73 x74 q76 x78) := by
  unfold waqn waxq
  apply wbuq
  all_goals assumption
theorem wbus (x79 : List Y1) (x80 : Int) (x81 : Int) (q82 q83 : Yd) (hq84 : ∀ h, Le (q82 h) (q83 h)) (x85 : Int) : Le (waqo x79 x80 x81 q82 x85).ev (waxr x79 x80 x81 q83 x85).ev := by
  unfold waqo waxr
  try dsimp only
  repeat' first
    | with_reducible exact Le.refl _
    | with_reducible exact Le.f _
    | with_reducible refine Le.t ?_ ?_
    | with_reducible refine Le.g ?_
    | with_reducible refine Le.s (fun _ => ?_) (fun _ => ?_)
    | with_reducible refine Le.c ?_ (fun _ => ?_)
    | with_reducible assumption
    | with_reducible apply hq84
    | with_reducible refine Le.bnd ?_
    | with_reducible intro _
theorem wbut (x86 : List Y1) (x87 : Int) (x88 : Int) (q89 q90 : Yd) (hq91 : ∀ h, Le (q89 h) (q90 h)) (x92 : Int) : Le (wws x86 x87 x88 q89 x92) (wahn x86 x87 x88 q90 x92) := by
  unfold wws wahn
  apply wbus
  all_goals assumption
theorem wbuu (x93 : List Y1) (x94 : Int) (x95 : Int) (x96 : Int) (q97 q98 : Yd) (hq99 : ∀ h, Le (q97 h) (q98 h)) (x100 : Int) : Le (waqp x93 x94 x95 x96 q97 x100).ev (waxs x93 x94 x95 x96 q98 x100).ev := by
  unfold waqp waxs
  try dsimp only
  repeat' first
    | with_reducible exact Le.refl _
    | with_reducible exact Le.f _
    | with_reducible refine Le.t ?_ ?_
    | with_reducible refine Le.g ?_
    | with_reducible refine Le.s (fun _ => ?_) (fun _ => ?_)
    | with_reducible refine Le.c ?_ (fun _ => ?_)
    | with_reducible assumption
    | with_reducible apply hq99
    | with_reducible apply wbut
    | with_reducible refine Le.bnd ?_
    | with_reducible intro _
theorem wbcj (x101 : List Y1) (x102 : Int) (x103 : Int) (x104 : Int) (q105 q106 : Yd) (hq107 : ∀ h, Le (q105 h) (q106 h)) (x108 : Int) : Le (wwt x101 x102 x103 x104 q105 x108) (waho x101 x102 x103 x104 q106 x108) := by
  unfold wwt waho
  apply wbuu
  all_goals assumption
theorem wbuv (x109 : List Y1) (x110 : Int) (q111 q112 : Yd) (hq113 : ∀ h, Le (q111 h) (q112 h)) (x114 : Int) : Le (waqq x109 x110 q111 x114).ev (waxu x109 x110 q112 x114).ev := by
  unfold waqq waxu
  try dsimp only
  repeat' first
    | with_reducible exact Le.refl _
    | with_reducible exact Le.f _
    | with_reducible refine Le.t ?_ ?_
    | with_reducible refine Le.g ?_
    | with_reducible refine Le.s (fun _ => ?_) (fun _ => ?_)
    | with_reducible refine Le.c ?_ (fun _ => ?_)
    | with_reducible assumption
    | with_reducible apply hq113
    | with_reducible apply wbcj
    | with_reducible refine Le.bnd ?_
    | with_reducible intro _
theorem wbuw (x115 : List Y1) (x116 : Int) (q117 q118 : Yd) (hq119 : ∀ h, Le (q117 h) (q118 h)) (x120 : Int) : Le (wwu x115 x116 q117 x120) (wahp x115 x116 q118 x120) := by
  unfold wwu wahp
  apply wbuv
  all_goals assumption
theorem wbux (x121 : List Y1) (x122 : Int) (x123 : Int) (q124 q125 : Yd) (hq126 : ∀ h, Le (q124 h) (q125 h)) : Le (waqr x121 x122 x123 q124).ev (waxv x121 x122 x123 q125).ev := by
  unfold waqr waxv
  try dsimp only
  repeat' first
    | with_reducible exact Le.refl _
    | with_reducible exact Le.f _
    | with_reducible refine Le.t ?_ ?_
    | with_reducible refine Le.g ?_
    | with_reducible refine Le.s (fun _ => ?_) (fun _ => ?_)
    | with_reducible refine Le.c ?_ (fun _ => ?_)
    | with_reducible assumption
    | with_reducible apply hq126
    | with_reducible apply wbuw
    | with_reducible apply wbcj
    | with_reducible refine Le.bnd ?_
    | with_reducible intro _
theorem wbuy (x127 : List Y1) (x128 : Int) (x129 : Int) (q130 q131 : Yd) (hq132 : ∀ h, Le (q130 h) (q131 h)) : Le (wafl x127 x128 x129 q130) (wapc x127 x128 x129 q131) := by
  unfold wafl wapc
  apply wbux
  all_goals assumption
theorem wayz (c133 : (Int)) (q134 q135 : (Yd)) (hq136 : ∀ h, Le (q134 h) (q135 h)) (c137 : (Int)) (c138 : (List Nat)) (c139 : List Y1) (x140 : Int) : Le (wtn (c133, (q134, (c137, (c138, c139)))) x140).ev (wsq (c133, (q135, (c137, (c138, c139)))) x140).ev := by
  unfold wtn wsq
  try dsimp only
  repeat' first
    | with_reducible exact Le.refl _
    | with_reducible exact Le.f _
    | with_reducible refine Le.t ?_ ?_
    | with_reducible refine Le.g ?_
    | with_reducible refine Le.s (fun _ => ?_) (fun _ => ?_)
    | with_reducible refine Le.c ?_ (fun _ => ?_)
    | with_reducible assumption
    | with_reducible apply hq136
    | with_reducible refine Le.bnd ?_
    | with_reducible intro _
theorem waza (c141 : (Int)) (q142 q143 : (Yd)) (hq144 : ∀ h, Le (q142 h) (q143 h)) (c145 : (Int)) (c146 : (List Nat)) (c147 : List Y1) (x148 : Int) : Le (wto (c141, (q142, (c145, (c146, c147)))) x148) (wzs (c141, (q143, (c145, (c146, c147)))) x148) := by
  unfold wto wzs
  refine Le.it (fun v => ?_) _ _
  apply wayz
  all_goals assumption
theorem wazb (c149 : (Int)) (q150 q151 : (Yd)) (hq152 : ∀ h, Le (q150 h) (q151 h)) (c153 : (Int)) (c154 : (List Nat)) (c155 : List Y1) (x156 : Int) : Le (wtp (c149, (q150, (c153, (c154, c155)))) x156).ev (wsr (c149, (q151, (c153, (c154, c155)))) x156).ev := by
  unfold wtp wsr
  try dsimp only
  repeat' first
    | with_reducible exact Le.refl _
    | with_reducible exact Le.f _
    | with_reducible refine Le.t ?_ ?_
    | with_reducible refine Le.g ?_
    | with_reducible refine Le.s (fun _ => ?_) (fun _ => ?_)
    | with_reducible refine Le.c ?_ (fun _ => ?_)
    | with_reducible assumption
    | with_reducible apply hq152
    | with_reducible refine Le.bnd ?_
    | with_reducible intro _
theorem wazc (c157 : (Int)) (q158 q159 : (Yd)) (hq160 : ∀ h, Le (q158 h) (q159 h)) (c161 : (Int)) (c162 : (List Nat)) (c163 : List Y1) (x164 : Int) : Le (wtq (c157, (q158, (c161, (c162, c163)))) x164) (wzt (c157, (q159, (c161, (c162, c163)))) x164) := by
  unfold wtq wzt
  refine Le.it (fun v => ?_) _ _
  apply wazb
  all_goals assumption
theorem wazd (c165 : (Int)) (q166 q167 : (Yd)) (hq168 : ∀ h, Le (q166 h) (q167 h)) (c169 : (Int)) (c170 : (List Nat)) (c171 : List Y1) (x172 : Int) : Le (wtr (c165, (q166, (c169, (c170, c171)))) x172).ev (wss (c165, (q167, (c169, (c170, c171)))) x172).ev := by
  unfold wtr wss
  try dsimp only
  repeat' first
    | with_reducible exact Le.refl _
    | with_reducible exact Le.f _
    | with_reducible refine Le.t ?_ ?_
    | with_reducible refine Le.g ?_
    | with_reducible refine Le.s (fun _ => ?_) (fun _ => ?_)
    | with_reducible refine Le.c ?_ (fun _ => ?_)
    | with_reducible assumption
    | with_reducible apply hq168
    | with_reducible refine Le.bnd ?_
    | with_reducible intro _
theorem waze (c173 : (Int)) (q174 q175 : (Yd)) (hq176 : ∀ h, Le (q174 h) (q175 h)) (c177 : (Int)) (c178 : (List Nat)) (c179 : List Y1) (x180 : Int) : Le (wts (c173, (q174, (c177, (c178, c179)))) x180) (wzu (c173, (q175, (c177, (c178, c179)))) x180) := by
  unfold wts wzu
  refine Le.it (fun v => ?_) _ _
  apply wazd
  all_goals assumption
theorem wazf (c181 : (Int)) (q182 q183 : (Yd)) (hq184 : ∀ h, Le (q182 h) (q183 h)) (c185 : (Int)) (c186 : (List Nat)) (c187 : List Y1) (x188 : Int) : Le (wtu (c181, (q182, (c185, (c186, c187)))) x188).ev (wsu (c181, (q183, (c185, (c186, c187)))) x188).ev := by
  unfold wtu wsu
  try dsimp only
  repeat' first
    | with_reducible exact Le.refl _
    | with_reducible exact Le.f _
    | with_reducible refine Le.t ?_ ?_
    | with_reducible refine Le.g ?_
    | with_reducible refine Le.s (fun _ => ?_) (fun _ => ?_)
    | with_reducible refine Le.c ?_ (fun _ => ?_)
    | with_reducible assumption
    | with_reducible apply hq184
    | with_reducible refine Le.bnd ?_
    | with_reducible intro _
theorem wazg (c189 : (Int)) (q190 q191 : (Yd)) (hq192 : ∀ h, Le (q190 h) (q191 h)) (c193 : (Int)) (c194 : (List Nat)) (c195 : List Y1) (x196 : Int) : Le (wtv (c189, (q190, (c193, (c194, c195)))) x196) (wzv (c189, (q191, (c193, (c194, c195)))) x196) := by
  unfold wtv wzv
  refine Le.it (fun v => ?_) _ _
  apply wazf
  all_goals assumption
theorem wazh (c197 : (Int)) (q198 q199 : HL [y1, y1] → Option (Int)) (hq200 : ∀ h, Le (q198 h) (q199 h)) (x201 : Int × Yz) : Le (wtw (c197, q198) x201).ev (wsv (c197, q199) x201).ev := by
  unfold wtw wsv
  try dsimp only
  repeat' first
    | with_reducible exact Le.refl _
    | with_reducible exact Le.f _
    | with_reducible refine Le.t ?_ ?_
    | with_reducible refine Le.g ?_
    | with_reducible refine Le.s (fun _ => ?_) (fun _ => ?_)
    | with_reducible refine Le.c ?_ (fun _ => ?_)
    | with_reducible assumption
    | with_reducible apply hq200
    | with_reducible apply waze
    | with_reducible apply wazg
    | with_reducible refine Le.bnd ?_
    | with_reducible intro _
theorem wazi (c202 : (Int)) (q203 q204 : HL [y1, y1] → Option (Int)) (hq205 : ∀ h, Le (q203 h) (q204 h)) (x206 : Int × Yz) : Le (wtx (c202, q203) x206) (wzw (c202, q204) x206) := by
  unfold wtx wzw
  refine Le.it (fun v => ?_) _ _
  apply wazh
  all_goals assumption
theorem wbuz (x207 : Int) (x208 : Int) (x209 : Int) (q210 q211 : Yd) (hq212 : ∀ h, Le (q210 h) (q211 h)) (x213 : (List Nat) × Y2) : Le (waqs x207 x208 x209 q210 x213).ev (waxw x207 x208 x209 q211 x213).ev := by
  unfold waqs waxw
  try dsimp only
  repeat' first
    | with_reducible exact Le.refl _
    | with_reducible exact Le.f _
    | with_reducible refine Le.t ?_ ?_
    | with_reducible refine Le.g ?_
    | with_reducible refine Le.s (fun _ => ?_) (fun _ => ?_)
    | with_reducible refine Le.c ?_ (fun _ => ?_)
    | with_reducible assumption
    | with_reducible apply hq212
    | with_reducible apply waza
    | with_reducible apply wazc
    | with_reducible apply wazi
    | with_reducible refine Le.bnd ?_
    | with_reducible intro _
theorem wbva (x214 : Int) (x215 : Int) (x216 : Int) (q217 q218 : Yd) (hq219 : ∀ h, Le (q217 h) (q218 h)) (x220 : (List Nat) × Y2) : Le (wen x214 x215 x216 q217 x220) (whv x214 x215 x216 q218 x220) := by
  unfold wen whv
  apply wbuz
  all_goals assumption
theorem wazj (rec221 rec222 : (Int) → (Int) → (Int) → (Yd) → Yc → Option Yc) (hr223 : ∀ (x224 : (Int)) (x225 : (Int)) (x226 : (Int)) (q227 q228 : (Yd)) (hq229 : ∀ h, Le (q227 h) (q228 h)) (x230 : Yc), Le (rec221 x224 x225 x226 q227 x230) (rec222 x224 x225 x226 q228 x230)) (q231 q232 : Yd) (hq233 : ∀ h, Le (q231 h) (q232 h)) (x234 : Int × Yah) : Le (wty rec221 q231 x234).ev (wsw rec222 q232 x234).ev := by
  unfold wty wsw
  try dsimp only
  repeat' first
    | with_reducible exact Le.refl _
    | with_reducible exact Le.f _
    | with_reducible refine Le.t ?_ ?_
    | with_reducible refine Le.g ?_
    | with_reducible refine Le.s (fun _ => ?_) (fun _ => ?_)
    | with_reducible refine Le.c ?_ (fun _ => ?_)
    | with_reducible assumption
    | with_reducible apply hr223
    | with_reducible apply hq233
    | with_reducible apply wbul
    | with_reducible apply wbur
    | with_reducible apply wbuy
    | with_reducible apply wbva
    | with_reducible refine Le.bnd ?_
    | with_reducible intro _
theorem wazk (rec235 rec236 : (Int) → (Int) → (Int) → (Yd) → Yc → Option Yc) (hr237 : ∀ (x238 : (Int)) (x239 : (Int)) (x240 : (Int)) (q241 q242 : (Yd)) (hq243 : ∀ h, Le (q241 h) (q242 h)) (x244 : Yc), Le (rec235 x238 x239 x240 q241 x244) (rec236 x238 x239 x240 q242 x244)) (q245 q246 : Yd) (hq247 : ∀ h, Le (q245 h) (q246 h)) (x248 : Int × Yah) : Le (wtz rec235 q245 x248) (waaa rec236 q246 x248) := by
  unfold wtz waaa
  refine Le.it (fun v => ?_) _ _
  apply wazj
  all_goals assumption
theorem wbvb (rec249 rec250 : (Int) → (Int) → (Int) → (Yd) → Yc → Option Yc) (hr251 : ∀ (x252 : (Int)) (x253 : (Int)) (x254 : (Int)) (q255 q256 : (Yd)) (hq257 : ∀ h, Le (q255 h) (q256 h)) (x258 : Yc), Le (rec249 x252 x253 x254 q255 x258) (rec250 x252 x253 x254 q256 x258)) (x259 : Int) (x260 : Int) (x261 : Int) (q262 q263 : Yd) (hq264 : ∀ h, Le (q262 h) (q263 h)) (x265 : (List Nat) × Y2) : Le (waqt rec249 x259 x260 x261 q262 x265).ev (waxx rec250 x259 x260 x261 q263 x265).ev := by
  unfold waqt waxx
  try dsimp only
  repeat' first
    | with_reducible exact Le.refl _
    | with_reducible exact Le.f _
    | with_reducible refine Le.t ?_ ?_
    | with_reducible refine Le.g ?_
    | with_reducible refine Le.s (fun _ => ?_) (fun _ => ?_)
    | with_reducible refine Le.c ?_ (fun _ => ?_)
    | with_reducible assumption
    | with_reducible apply hr251
    | with_reducible apply hq264
    | with_reducible apply wazk
    | with_reducible refine Le.bnd ?_
    | with_reducible intro _
theorem wbck : ∀ (n : Nat) (x266 : (Int)) (x267 : (Int)) (x268 : (Int)) (q269 q270 : (Yd)) (hq271 : ∀ h, Le (q269 h) (q270 h)) (x272 : Yc), Le (wafm n x266 x267 x268 q269 x272) (wsx n x266 x267 x268 q270 x272)
  | 0 => by intros; exact Le.none _
  | n + 1 => by
    intros
    unfold wafm wsx
    apply wbvb
    · exact wbck n
    all_goals assumption
theorem wbvc (q273 q274 : Yd) (hq275 : ∀ h, Le (q273 h) (q274 h)) (x276 : (List Nat) × Y2) : Le (waqu q273 x276).ev (waxy q274 x276).ev := by
  unfold waqu waxy
  try dsimp only
  repeat' first
    | with_reducible exact Le.refl _
    | with_reducible exact Le.f _
    | with_reducible refine Le.t ?_ ?_
    | with_reducible refine Le.g ?_
    | with_reducible refine Le.s (fun _ => ?_) (fun _ => ?_)
    | with_reducible refine Le.c ?_ (fun _ => ?_)
    | with_reducible assumption
    | with_reducible apply hq275
    | with_reducible apply wbci
    | with_reducible apply wbck
    | with_reducible refine Le.bnd ?_
    | with_reducible intro _
theorem wbvd (q277 q278 : Yd) (hq279 : ∀ h, Le (q277 h) (q278 h)) (x280 : (List Nat) × Y2) : Le (waqv q277 x280) (waxz q278 x280) := by
  unfold waqv waxz
  apply wbvc
  all_goals assumption
theorem wazl (x281 : Y1 × (Y1 × (Y1 × Int))) (x282 : Int) : Le (wua x281 x282).ev (wsy x281 x282).ev := by
  unfold wua wsy
  try dsimp only
  repeat' first
    | with_reducible exact Le.refl _
    | with_reducible exact Le.f _
    | with_reducible refine Le.t ?_ ?_
    | with_reducible refine Le.g ?_
    | with_reducible refine Le.s (fun _ => ?_) (fun _ => ?_)
    | with_reducible refine Le.c ?_ (fun _ => ?_)
    | with_reducible assumption
    | with_reducible apply wbuf
    | with_reducible refine Le.bnd ?_
    | with_reducible intro _
theorem wazm (x283 : Y1 × (Y1 × (Y1 × Int))) (x284 : Int) : Le (wub x283 x284) (waab x283 x284) := by
  unfold wub waab
  refine Le.it (fun v => ?_) _ _
  apply wazl
  all_goals assumption
theorem wbve (x285 : Y1) (x286 : Y1) : Le (waqw x285 x286).ev (wayb x285 x286).ev := by
  unfold waqw wayb
  try dsimp only
  repeat' first
    | with_reducible exact Le.refl _
    | with_reducible exact Le.f _
    | with_reducible refine Le.t ?_ ?_
    | with_reducible refine Le.g ?_
    | with_reducible refine Le.s (fun _ => ?_) (fun _ => ?_)
    | with_reducible refine Le.c ?_ (fun _ => ?_)
    | with_reducible assumption
    | with_reducible apply wazm
    | with_reducible refine Le.bnd ?_
    | with_reducible intro _
theorem wbvf (x287 : Y1) (x288 : Y1) : Le (waqx x287 x288) (wayc x287 x288) := by
  unfold waqx wayc
  apply wbve
  all_goals assumption
theorem wboy (x289 : Int × (Y1 × Int)) (x290 : Int) : Le (waak x289 x290).ev (waew x289 x290).ev := by
  unfold waak waew
  try dsimp only
  repeat' first
    | with_reducible exact Le.refl _
    | with_reducible exact Le.f _
    | with_reducible refine Le.t ?_ ?_
    | with_reducible refine Le.g ?_
    | with_reducible refine Le.s (fun _ => ?_) (fun _ => ?_)
    | with_reducible refine Le.c ?_ (fun _ => ?_)
    | with_reducible assumption
    | with_reducible refine Le.bnd ?_
    | with_reducible intro _
theorem wboz (x291 : Int × (Y1 × Int)) (x292 : Int) : Le (waal x291 x292) (wapd x291 x292) := by
  unfold waal wapd
  refine Le.it (fun v => ?_) _ _
  apply wboy
  all_goals assumption
theorem wcgm (x293 : Y1) : Le (wbow x293).ev (T_zb x293).ev := by
  unfold wbow T_zb
  try dsimp only
  repeat' first
    | with_reducible exact Le.refl _
    | with_reducible exact Le.f _
    | with_reducible refine Le.t ?_ ?_
    | with_reducible refine Le.g ?_
    | with_reducible refine Le.s (fun _ => ?_) (fun _ => ?_)
    | with_reducible refine Le.c ?_ (fun _ => ?_)
    | with_reducible assumption
    | with_reducible apply wboz
    | with_reducible refine Le.bnd ?_
    | with_reducible intro _
theorem wcgn (x294 : Y1) : Le (wbox x294) (F_zb x294) := by
  unfold wbox F_zb
  apply wcgm
  all_goals assumption
theorem wbvg (x295 : Y1) (x296 : Y1) : Le (waqy x295 x296).ev (wayd x295 x296).ev := by
  unfold waqy wayd
  try dsimp only
  repeat' first
    | with_reducible exact Le.refl _
    | with_reducible exact Le.f _
    | with_reducible refine Le.t ?_ ?_
    | with_reducible refine Le.g ?_
    | with_reducible refine Le.s (fun _ => ?_) (fun _ => ?_)
    | with_reducible refine Le.c ?_ (fun _ => ?_)
    | with_reducible assumption
    | with_reducible apply wbuf
    | with_reducible apply wbvf
    | with_reducible apply wcgn
    | with_reducible refine Le.bnd ?_
    | with_reducible intro _
theorem wbvh (x297 : Y1) (x298 : Y1) : Le (waqz x297 x298) (waye x297 x298) := by
  unfold waqz waye
  apply wbvg
  all_goals assumption
theorem wazn (x299 : Int) (x300 : Int × Y2) : Le (wuc x299 x300).ev (wsz x299 x300).ev := by
  unfold wuc wsz
  try dsimp only
  repeat' first
    | with_reducible exact Le.refl _
    | with_reducible exact Le.f _
    | with_reducible refine Le.t ?_ ?_
    | with_reducible refine Le.g ?_
    | with_reducible refine Le.s (fun _ => ?_) (fun _ => ?_)
    | with_reducible refine Le.c ?_ (fun _ => ?_)
    | with_reducible assumption
    | with_reducible apply wbch
    | with_reducible refine Le.bnd ?_
    | with_reducible intro _
theorem wazo (x301 : Int) (x302 : Int × Y2) : Le (wud x301 x302) (waac x301 x302) := by
  unfold wud waac
  refine Le.it (fun v => ?_) _ _
  apply wazn
  all_goals assumption
theorem wbvi (x303 : Int) : Le (wara x303).ev (wayf x303).ev := by
  unfold wara wayf
  try dsimp only
  repeat' first
    | with_reducible exact Le.refl _
    | with_reducible exact Le.f _
    | with_reducible refine Le.t ?_ ?_
    | with_reducible refine Le.g ?_
    | with_reducible refine Le.s (fun _ => ?_) (fun _ => ?_)
    | with_reducible refine Le.c ?_ (fun _ => ?_)
    | with_reducible assumption
    | with_reducible apply wazo
    | with_reducible apply wbvd
    | with_reducible apply wbvh
    | with_reducible refine Le.bnd ?_
    | with_reducible intro _
theorem wbvj (x304 : Int) : Le (warb x304) (wahq x304) := by
  unfold warb wahq
  apply wbvi
  all_goals assumption
end Go.Proofs.YtnagpmhaddfgmaaGreat
