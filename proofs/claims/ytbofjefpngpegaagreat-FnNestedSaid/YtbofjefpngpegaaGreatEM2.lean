import Derived.Test.YtbofjefpngpegaaGreatEM1
namespace Go.Proofs.YtbofjefpngpegaaGreat
theorem wbyz (x1 : Int) : Le (wanx x1).ev (wahu x1).ev := by
  unfold wanx wahu
  try dsimp only
  repeat' first
    | with_reducible exact Le.refl _
    | with_reducible exact Le.f _
    | with_reducible refine Le.t ?_ ?_
    | with_reducible refine Le.g ?_
    | with_reducible refine Le.s (fun _ => ?_) (fun _ => ?_)
    | with_reducible refine Le.c ?_ (fun _ => ?_)
    | with_reducible assumption
    | with_reducible refine Le.bnd ?_
    | with_reducible intro _
theorem wbza (x2 : Int) : Le (wany x2) (wavb x2) := by
  unfold wany wavb
  apply wbyz
  all_goals assumption
theorem wbzb (x3 : Int) : Le (wanz x3).ev (wahv x3).ev := by
  unfold wanz wahv
  try dsimp only
  repeat' first
    | with_reducible exact Le.refl _
    | with_reducible exact Le.f _
    | with_reducible refine Le.t ?_ ?_
    | with_reducible refine Le.g ?_
    | with_reducible refine Le.s (fun _ => ?_) (fun _ => ?_)
    | with_reducible refine Le.c ?_ (fun _ => ?_)
    | with_reducible assumption
    | with_reducible apply wbza
    | with_reducible refine Le.bnd ?_
    | with_reducible intro _
theorem wbci (x4 : Int) : Le (waaw x4) (wxt x4) := by
  unfold waaw wxt
  apply wbzb
  all_goals assumption
theorem wcoa (x5 : Int) : Le (wbly x5).ev (T_zd x5).ev := by
  unfold wbly T_zd
  try dsimp only
  repeat' first
    | with_reducible exact Le.refl _
    | with_reducible exact Le.f _
    | with_reducible refine Le.t ?_ ?_
    | with_reducible refine Le.g ?_
    | with_reducible refine Le.s (fun _ => ?_) (fun _ => ?_)
    | with_reducible refine Le.c ?_ (fun _ => ?_)
    | with_reducible assumption
    | with_reducible refine Le.bnd ?_
    | with_reducible intro _
theorem wcob (x6 : Int) : Le (wayt x6) (F_zd x6) := by
  unfold wayt F_zd
  apply wcoa
  all_goals assumption
theorem wbzc (x7 : Int) : Le (waoa x7).ev (waib x7).ev := by
  unfold waoa waib
  try dsimp only
  repeat' first
    | with_reducible exact Le.refl _
    | with_reducible exact Le.f _
    | with_reducible refine Le.t ?_ ?_
    | with_reducible refine Le.g ?_
    | with_reducible refine Le.s (fun _ => ?_) (fun _ => ?_)
    | with_reducible refine Le.c ?_ (fun _ => ?_)
    | with_reducible assumption
    | with_reducible apply wbci
    | with_reducible refine Le.bnd ?_
    | with_reducible intro _
theorem wbzd (x8 : Int) : Le (waob x8) (waic x8) := by
  unfold waob waic
  apply wbzc
  all_goals assumption
theorem wbze (x9 : Int) : Le (waoc x9).ev (waid x9).ev := by
  unfold waoc waid
  try dsimp only
  repeat' first
    | with_reducible exact Le.refl _
    | with_reducible exact Le.f _
    | with_reducible refine Le.t ?_ ?_
    | with_reducible refine Le.g ?_
    | with_reducible refine Le.s (fun _ => ?_) (fun _ => ?_)
    | with_reducible refine Le.c ?_ (fun _ => ?_)
    | with_reducible assumption
    | with_reducible refine Le.bnd ?_
    | with_reducible intro _
theorem wbzf (x10 : Int) : Le (waod x10) (waie x10) := by
  unfold waod waie
  apply wbze
  all_goals assumption
theorem wcoc (x11 : Int) (x12 : Int) : Le (wblz x11 x12).ev (T_zu x11 x12).ev := by
  unfold wblz T_zu
  try dsimp only
  repeat' first
    | with_reducible exact Le.refl _
    | with_reducible exact Le.f _
    | with_reducible refine Le.t ?_ ?_
    | with_reducible refine Le.g ?_
    | with_reducible refine Le.s (fun _ => ?_) (fun _ => ?_)
    | with_reducible refine Le.c ?_ (fun _ => ?_)
    | with_reducible assumption
    | with_reducible refine Le.bnd ?_
    | with_reducible intro _
theorem wcod (x13 : Int) (x14 : Int) : Le (wbma x13 x14) (F_zu x13 x14) := by
  unfold wbma F_zu
  apply wcoc
  all_goals assumption
theorem wbmi (x15 : Int) (x16 : Int × Y1) : Le (wza x15 x16).ev (waao x15 x16).ev := by
  unfold wza waao
  try dsimp only
  repeat' first
    | with_reducible exact Le.refl _
    | with_reducible exact Le.f _
    | with_reducible refine Le.t ?_ ?_
    | with_reducible refine Le.g ?_
    | with_reducible refine Le.s (fun _ => ?_) (fun _ => ?_)
    | with_reducible refine Le.c ?_ (fun _ => ?_)
    | with_reducible assumption
    | with_reducible apply wcod
    | with_reducible refine Le.bnd ?_
    | with_reducible intro _
theorem wbmj (x17 : Int) (x18 : Int × Y1) : Le (wzb x17 x18) (waiu x17 x18) := by
  unfold wzb waiu
  refine Le.it (fun v => ?_) _ _
  apply wbmi
  all_goals assumption
theorem wcoe (x19 : Int) : Le (wbmb x19).ev (T_zv x19).ev := by
  unfold wbmb T_zv
  try dsimp only
  repeat' first
    | with_reducible exact Le.refl _
    | with_reducible exact Le.f _
    | with_reducible refine Le.t ?_ ?_
    | with_reducible refine Le.g ?_
    | with_reducible refine Le.s (fun _ => ?_) (fun _ => ?_)
    | with_reducible refine Le.c ?_ (fun _ => ?_)
    | with_reducible assumption
    | with_reducible apply wbmj
    | with_reducible refine Le.bnd ?_
    | with_reducible intro _
theorem wcof (x20 : Int) : Le (wbmc x20) (F_zv x20) := by
  unfold wbmc F_zv
  apply wcoe
  all_goals assumption
theorem wayv (c21 : (Int)) (c22 : (Int)) (q23 q24 : ((HL [y1, y1] → Option (Int)))) (hq25 : ∀ h, Le (q23 h) (q24 h)) (c26 : Int) (x27 : Int × ((List Nat) × Y2)) : Le (wsg (c21, (c22, (q23, c26))) x27).ev (wqo (c21, (c22, (q24, c26))) x27).ev := by
  unfold wsg wqo
  try dsimp only
  repeat' first
    | with_reducible exact Le.refl _
    | with_reducible exact Le.f _
    | with_reducible refine Le.t ?_ ?_
    | with_reducible refine Le.g ?_
    | with_reducible refine Le.s (fun _ => ?_) (fun _ => ?_)
    | with_reducible refine Le.c ?_ (fun _ => ?_)
    | with_reducible assumption
    | with_reducible apply hq25
    | with_reducible refine Le.bnd ?_
    | with_reducible intro _
theorem wayw (c28 : (Int)) (c29 : (Int)) (q30 q31 : ((HL [y1, y1] → Option (Int)))) (hq32 : ∀ h, Le (q30 h) (q31 h)) (c33 : Int) (x34 : Int × ((List Nat) × Y2)) : Le (wsh (c28, (c29, (q30, c33))) x34) (wxx (c28, (c29, (q31, c33))) x34) := by
  unfold wsh wxx
  refine Le.it (fun v => ?_) _ _
  apply wayv
  all_goals assumption
theorem wayx (c35 : (Int)) (c36 : (Int)) (q37 q38 : HL [y1, y1] → Option (Int)) (hq39 : ∀ h, Le (q37 h) (q38 h)) (x40 : Int × ((List Nat) × Y2)) : Le (wsi (c35, (c36, q37)) x40).ev (wqq (c35, (c36, q38)) x40).ev := by
  unfold wsi wqq
  try dsimp only
  repeat' first
    | with_reducible exact Le.refl _
    | with_reducible exact Le.f _
    | with_reducible refine Le.t ?_ ?_
    | with_reducible refine Le.g ?_
    | with_reducible refine Le.s (fun _ => ?_) (fun _ => ?_)
    | with_reducible refine Le.c ?_ (fun _ => ?_)
    | with_reducible assumption
    | with_reducible apply hq39
    | with_reducible apply wayw
    | with_reducible refine Le.bnd ?_
    | with_reducible intro _
theorem wayy (c41 : (Int)) (c42 : (Int)) (q43 q44 : HL [y1, y1] → Option (Int)) (hq45 : ∀ h, Le (q43 h) (q44 h)) (x46 : Int × ((List Nat) × Y2)) : Le (wsj (c41, (c42, q43)) x46) (wxy (c41, (c42, q44)) x46) := by
  unfold wsj wxy
  refine Le.it (fun v => ?_) _ _
  apply wayx
  all_goals assumption
theorem wbzg (x47 : Int) (x48 : Int) (q49 q50 : (HL [y1, y1] → Option (Int))) (hq51 : ∀ h, Le (q49 h) (q50 h)) (x52 : (List Nat) × Y2) : Le (waoe x47 x48 q49 x52).ev (waiv x47 x48 q50 x52).ev := by
  unfold waoe waiv
  try dsimp only
  repeat' first
    | with_reducible exact Le.refl _
    | with_reducible exact Le.f _
    | with_reducible refine Le.t ?_ ?_
    | with_reducible refine Le.g ?_
    | with_reducible refine Le.s (fun _ => ?_) (fun _ => ?_)
    | with_reducible refine Le.c ?_ (fun _ => ?_)
    | with_reducible assumption
    | with_reducible apply hq51
    | with_reducible apply wayy
    | with_reducible refine Le.bnd ?_
    | with_reducible intro _
theorem wbzh (x53 : Int) (x54 : Int) (q55 q56 : (HL [y1, y1] → Option (Int))) (hq57 : ∀ h, Le (q55 h) (q56 h)) (x58 : (List Nat) × Y2) : Le (waof x53 x54 q55 x58) (wavu x53 x54 q56 x58) := by
  unfold waof wavu
  apply wbzg
  all_goals assumption
theorem wayz (x59 : Int × (Int × Int)) (x60 : Int × (((List Nat) × Y2) × Int)) : Le (wsk x59 x60).ev (wqs x59 x60).ev := by
  unfold wsk wqs
  try dsimp only
  repeat' first
    | with_reducible exact Le.refl _
    | with_reducible exact Le.f _
    | with_reducible refine Le.t ?_ ?_
    | with_reducible refine Le.g ?_
    | with_reducible refine Le.s (fun _ => ?_) (fun _ => ?_)
    | with_reducible refine Le.c ?_ (fun _ => ?_)
    | with_reducible assumption
    | with_reducible apply wbzf
    | with_reducible refine Le.bnd ?_
    | with_reducible intro _
theorem waza (x61 : Int × (Int × Int)) (x62 : Int × (((List Nat) × Y2) × Int)) : Le (wsl x61 x62) (wxz x61 x62) := by
  unfold wsl wxz
  refine Le.it (fun v => ?_) _ _
  apply wayz
  all_goals assumption
theorem wbzi (x63 : Int) (x64 : Int) (q65 q66 : (HL [y1, y1] → Option (Int))) (hq67 : ∀ h, Le (q65 h) (q66 h)) (x68 : (List Nat) × Y2) : Le (waog x63 x64 q65 x68).ev (waiz x63 x64 q66 x68).ev := by
  unfold waog waiz
  try dsimp only
  repeat' first
    | with_reducible exact Le.refl _
    | with_reducible exact Le.f _
    | with_reducible refine Le.t ?_ ?_
    | with_reducible refine Le.g ?_
    | with_reducible refine Le.s (fun _ => ?_) (fun _ => ?_)
    | with_reducible refine Le.c ?_ (fun _ => ?_)
    | with_reducible assumption
    | with_reducible apply hq67
    | with_reducible apply wbzd
    | with_reducible apply waza
    | with_reducible refine Le.bnd ?_
    | with_reducible intro _
theorem wbzj (x69 : Int) (x70 : Int) (q71 q72 : (HL [y1, y1] → Option (Int))) (hq73 : ∀ h, Le (q71 h) (q72 h)) (x74 : (List Nat) × Y2) : Le (waoh x69 x70 q71 x74) (wavv x69 x70 q72 x74) := by
  unfold waoh wavv
  apply wbzi
  all_goals assumption
theorem wbzk (x75 : List Y1) (x76 : Int) (x77 : Int) (q78 q79 : (HL [y1, y1] → Option (Int))) (hq80 : ∀ h, Le (q78 h) (q79 h)) (x81 : Int) : Le (waoi x75 x76 x77 q78 x81).ev (wajb x75 x76 x77 q79 x81).ev := by
  unfold waoi wajb
  try dsimp only
  repeat' first
    | with_reducible exact Le.refl _
    | with_reducible exact Le.f _
    | with_reducible refine Le.t ?_ ?_
    | with_reducible refine Le.g ?_
    | with_reducible refine Le.s (fun _ => ?_) (fun _ => ?_)
    | with_reducible refine Le.c ?_ (fun _ => ?_)
    | with_reducible assumption
    | with_reducible apply hq80
    | with_reducible refine Le.bnd ?_
    | with_reducible intro _
theorem wbzl (x82 : List Y1) (x83 : Int) (x84 : Int) (q85 q86 : (HL [y1, y1] → Option (Int))) (hq87 : ∀ h, Le (q85 h) (q86 h)) (x88 : Int) : Le (wvs x82 x83 x84 q85 x88) (wacs x82 x83 x84 q86 x88) := by
  unfold wvs wacs
  apply wbzk
  all_goals assumption
theorem wbzm (x89 : List Y1) (x90 : Int) (x91 : Int) (x92 : Int) (q93 q94 : (HL [y1, y1] → Option (Int))) (hq95 : ∀ h, Le (q93 h) (q94 h)) (x96 : Int) : Le (waoj x89 x90 x91 x92 q93 x96).ev (wajc x89 x90 x91 x92 q94 x96).ev := by
  unfold waoj wajc
  try dsimp only
  repeat' first
    | with_reducible exact Le.refl _
    | with_reducible exact Le.f _
    | with_reducible refine Le.t ?_ ?_
    | with_reducible refine Le.g ?_
    | with_reducible refine Le.s (fun _ => ?_) (fun _ => ?_)
    | with_reducible refine Le.c ?_ (fun _ => ?_)
    | with_reducible assumption
    | with_reducible apply hq95
    | with_reducible apply wbzl
    | with_reducible refine Le.bnd ?_
    | with_reducible intro _
theorem wbcj (x97 : List Y1) (x98 : Int) (x99 : Int) (x100 : Int) (q101 q102 : (HL [y1, y1] → Option (Int))) (hq103 : ∀ h, Le (q101 h) (q102 h)) (x104 : Int) : Le (wvt x97 x98 x99 x100 q101 x104) (wact x97 x98 x99 x100 q102 x104) := by
  unfold wvt wact
  apply wbzm
  all_goals assumption
theorem wbzn (x105 : List Y1) (x106 : Int) (q107 q108 : (HL [y1, y1] → Option (Int))) (hq109 : ∀ h, Le (q107 h) (q108 h)) (x110 : Int) : Le (waok x105 x106 q107 x110).ev (wajd x105 x106 q108 x110).ev := by
  unfold waok wajd
  try dsimp only
  repeat' first
    | with_reducible exact Le.refl _
    | with_reducible exact Le.f _
    | with_reducible refine Le.t ?_ ?_
    | with_reducible refine Le.g ?_
    | with_reducible refine Le.s (fun _ => ?_) (fun _ => ?_)
    | with_reducible refine Le.c ?_ (fun _ => ?_)
    | with_reducible assumption
    | with_reducible apply hq109
    | with_reducible apply wbcj
    | with_reducible refine Le.bnd ?_
    | with_reducible intro _
theorem wbzo (x111 : List Y1) (x112 : Int) (q113 q114 : (HL [y1, y1] → Option (Int))) (hq115 : ∀ h, Le (q113 h) (q114 h)) (x116 : Int) : Le (wvu x111 x112 q113 x116) (wacu x111 x112 q114 x116) := by
  unfold wvu wacu
  apply wbzn
  all_goals assumption
theorem wbzp (x117 : List Y1) (x118 : Int) (x119 : Int) (q120 q121 : (HL [y1, y1] → Option (Int))) (hq122 : ∀ h, Le (q120 h) (q121 h)) : Le (waol x117 x118 x119 q120).ev (waje x117 x118 x119 q121).ev := by
  unfold waol waje
  try dsimp only
  repeat' first
    | with_reducible exact Le.refl _
    | with_reducible exact Le.f _
    | with_reducible refine Le.t ?_ ?_
    | with_reducible refine Le.g ?_
    | with_reducible refine Le.s (fun _ => ?_) (fun _ => ?_)
    | with_reducible refine Le.c ?_ (fun _ => ?_)
    | with_reducible assumption
    | with_reducible apply hq122
    | with_reducible apply wbzo
    | with_reducible apply wbcj
    | with_reducible refine Le.bnd ?_
    | with_reducible intro _
theorem wbzq (x123 : List Y1) (x124 : Int) (x125 : Int) (q126 q127 : (HL [y1, y1] → Option (Int))) (hq128 : ∀ h, Le (q126 h) (q127 h)) : Le (waax x123 x124 x125 q126) (wajf x123 x124 x125 q127) := by
  unfold waax wajf
  apply wbzp
  all_goals assumption
theorem wazb (c129 : (Int)) (q130 q131 : ((HL [y1, y1] → Option (Int)))) (hq132 : ∀ h, Le (q130 h) (q131 h)) (c133 : (Int)) (c134 : (List Nat)) (c135 : List Y1) (x136 : Int) : Le (wsm (c129, (q130, (c133, (c134, c135)))) x136).ev (wqu (c129, (q131, (c133, (c134, c135)))) x136).ev := by
  unfold wsm wqu
  try dsimp only
  repeat' first
    | with_reducible exact Le.refl _
    | with_reducible exact Le.f _
    | with_reducible refine Le.t ?_ ?_
    | with_reducible refine Le.g ?_
    | with_reducible refine Le.s (fun _ => ?_) (fun _ => ?_)
    | with_reducible refine Le.c ?_ (fun _ => ?_)
    | with_reducible assumption
    | with_reducible apply hq132
    | with_reducible refine Le.bnd ?_
    | with_reducible intro _
theorem wazc (c137 : (Int)) (q138 q139 : ((HL [y1, y1] → Option (Int)))) (hq140 : ∀ h, Le (q138 h) (q139 h)) (c141 : (Int)) (c142 : (List Nat)) (c143 : List Y1) (x144 : Int) : Le (wsn (c137, (q138, (c141, (c142, c143)))) x144) (wya (c137, (q139, (c141, (c142, c143)))) x144) := by
  unfold wsn wya
  refine Le.it (fun v => ?_) _ _
  apply wazb
  all_goals assumption
theorem wazd (c145 : (Int)) (q146 q147 : ((HL [y1, y1] → Option (Int)))) (hq148 : ∀ h, Le (q146 h) (q147 h)) (c149 : (Int)) (c150 : (List Nat)) (c151 : List Y1) (x152 : Int) : Le (wso (c145, (q146, (c149, (c150, c151)))) x152).ev (wqw (c145, (q147, (c149, (c150, c151)))) x152).ev := by
  unfold wso wqw
  try dsimp only
  repeat' first
    | with_reducible exact Le.refl _
    | with_reducible exact Le.f _
    | with_reducible refine Le.t ?_ ?_
    | with_reducible refine Le.g ?_
    | with_reducible refine Le.s (fun _ => ?_) (fun _ => ?_)
    | with_reducible refine Le.c ?_ (fun _ => ?_)
    | with_reducible assumption
    | with_reducible apply hq148
    | with_reducible refine Le.bnd ?_
    | with_reducible intro _
theorem waze (c153 : (Int)) (q154 q155 : ((HL [y1, y1] → Option (Int)))) (hq156 : ∀ h, Le (q154 h) (q155 h)) (c157 : (Int)) (c158 : (List Nat)) (c159 : List Y1) (x160 : Int) : Le (wsp (c153, (q154, (c157, (c158, c159)))) x160) (wyb (c153, (q155, (c157, (c158, c159)))) x160) := by
  unfold wsp wyb
  refine Le.it (fun v => ?_) _ _
  apply wazd
  all_goals assumption
theorem wazf (c161 : (Int)) (q162 q163 : ((HL [y1, y1] → Option (Int)))) (hq164 : ∀ h, Le (q162 h) (q163 h)) (c165 : (Int)) (c166 : (List Nat)) (c167 : List Y1) (x168 : Int) : Le (wsq (c161, (q162, (c165, (c166, c167)))) x168).ev (wqy (c161, (q163, (c165, (c166, c167)))) x168).ev := by
  unfold wsq wqy
  try dsimp only
  repeat' first
    | with_reducible exact Le.refl _
    | with_reducible exact Le.f _
    | with_reducible refine Le.t ?_ ?_
    | with_reducible refine Le.g ?_
    | with_reducible refine Le.s (fun _ => ?_) (fun _ => ?_)
    | with_reducible refine Le.c ?_ (fun _ => ?_)
    | with_reducible assumption
    | with_reducible apply hq164
    | with_reducible refine Le.bnd ?_
    | with_reducible intro _
theorem wazg (c169 : (Int)) (q170 q171 : ((HL [y1, y1] → Option (Int)))) (hq172 : ∀ h, Le (q170 h) (q171 h)) (c173 : (Int)) (c174 : (List Nat)) (c175 : List Y1) (x176 : Int) : Le (wsr (c169, (q170, (c173, (c174, c175)))) x176) (wyc (c169, (q171, (c173, (c174, c175)))) x176) := by
  unfold wsr wyc
  refine Le.it (fun v => ?_) _ _
  apply wazf
  all_goals assumption
theorem wazh (c177 : (Int)) (q178 q179 : ((HL [y1, y1] → Option (Int)))) (hq180 : ∀ h, Le (q178 h) (q179 h)) (c181 : (Int)) (c182 : (List Nat)) (c183 : List Y1) (x184 : Int) : Le (wss (c177, (q178, (c181, (c182, c183)))) x184).ev (wra (c177, (q179, (c181, (c182, c183)))) x184).ev := by
  unfold wss wra
  try dsimp only
  repeat' first
    | with_reducible exact Le.refl _
    | with_reducible exact Le.f _
    | with_reducible refine Le.t ?_ ?_
    | with_reducible refine Le.g ?_
    | with_reducible refine Le.s (fun _ => ?_) (fun _ => ?_)
    | with_reducible refine Le.c ?_ (fun _ => ?_)
    | with_reducible assumption
    | with_reducible apply hq180
    | with_reducible refine Le.bnd ?_
    | with_reducible intro _
theorem wazi (c185 : (Int)) (q186 q187 : ((HL [y1, y1] → Option (Int)))) (hq188 : ∀ h, Le (q186 h) (q187 h)) (c189 : (Int)) (c190 : (List Nat)) (c191 : List Y1) (x192 : Int) : Le (wsu (c185, (q186, (c189, (c190, c191)))) x192) (wyd (c185, (q187, (c189, (c190, c191)))) x192) := by
  unfold wsu wyd
  refine Le.it (fun v => ?_) _ _
  apply wazh
  all_goals assumption
theorem wazj (c193 : (Int)) (q194 q195 : HL [y1, y1] → Option (Int)) (hq196 : ∀ h, Le (q194 h) (q195 h)) (x197 : Int × (Int × ((List Nat) × Y2))) : Le (wsv (c193, q194) x197).ev (wrc (c193, q195) x197).ev := by
  unfold wsv wrc
  try dsimp only
  repeat' first
    | with_reducible exact Le.refl _
    | with_reducible exact Le.f _
    | with_reducible refine Le.t ?_ ?_
    | with_reducible refine Le.g ?_
    | with_reducible refine Le.s (fun _ => ?_) (fun _ => ?_)
    | with_reducible refine Le.c ?_ (fun _ => ?_)
    | with_reducible assumption
    | with_reducible apply hq196
    | with_reducible apply wazg
    | with_reducible apply wazi
    | with_reducible refine Le.bnd ?_
    | with_reducible intro _
theorem wazk (c198 : (Int)) (q199 q200 : HL [y1, y1] → Option (Int)) (hq201 : ∀ h, Le (q199 h) (q200 h)) (x202 : Int × (Int × ((List Nat) × Y2))) : Le (wsw (c198, q199) x202) (wye (c198, q200) x202) := by
  unfold wsw wye
  refine Le.it (fun v => ?_) _ _
  apply wazj
  all_goals assumption
theorem wbzr (x203 : Int) (x204 : Int) (x205 : Int) (q206 q207 : (HL [y1, y1] → Option (Int))) (hq208 : ∀ h, Le (q206 h) (q207 h)) (x209 : (List Nat) × Y2) : Le (waom x203 x204 x205 q206 x209).ev (wajg x203 x204 x205 q207 x209).ev := by
  unfold waom wajg
  try dsimp only
  repeat' first
    | with_reducible exact Le.refl _
    | with_reducible exact Le.f _
    | with_reducible refine Le.t ?_ ?_
    | with_reducible refine Le.g ?_
    | with_reducible refine Le.s (fun _ => ?_) (fun _ => ?_)
    | with_reducible refine Le.c ?_ (fun _ => ?_)
    | with_reducible assumption
    | with_reducible apply hq208
    | with_reducible apply wazc
    | with_reducible apply waze
    | with_reducible apply wazk
    | with_reducible refine Le.bnd ?_
    | with_reducible intro _
theorem wbzs (x210 : Int) (x211 : Int) (x212 : Int) (q213 q214 : (HL [y1, y1] → Option (Int))) (hq215 : ∀ h, Le (q213 h) (q214 h)) (x216 : (List Nat) × Y2) : Le (wdq x210 x211 x212 q213 x216) (wgf x210 x211 x212 q214 x216) := by
  unfold wdq wgf
  apply wbzr
  all_goals assumption
theorem wazl (rec217 rec218 : (Int) → (Int) → (Int) → ((HL [y1, y1] → Option (Int))) → ((List Nat) × Y2) → Option ((List Nat) × Y2)) (hr219 : ∀ (x220 : (Int)) (x221 : (Int)) (x222 : (Int)) (q223 q224 : ((HL [y1, y1] → Option (Int)))) (hq225 : ∀ h, Le (q223 h) (q224 h)) (x226 : ((List Nat) × Y2)), Le (rec217 x220 x221 x222 q223 x226) (rec218 x220 x221 x222 q224 x226)) (q227 q228 : (HL [y1, y1] → Option (Int))) (hq229 : ∀ h, Le (q227 h) (q228 h)) (x230 : Int × (Int × (Int × (Bool × (Bool × ((List Nat) × Y2)))))) : Le (wsx rec217 q227 x230).ev (wrf rec218 q228 x230).ev := by
  unfold wsx wrf
  try dsimp only
  repeat' first
    | with_reducible exact Le.refl _
    | with_reducible exact Le.f _
    | with_reducible refine Le.t ?_ ?_
    | with_reducible refine Le.g ?_
    | with_reducible refine Le.s (fun _ => ?_) (fun _ => ?_)
    | with_reducible refine Le.c ?_ (fun _ => ?_)
    | with_reducible assumption
    | with_reducible apply hr219
    | with_reducible apply hq229
    | with_reducible apply wbzh
    | with_reducible apply wbzj
    | with_reducible apply wbzq
    | with_reducible apply wbzs
    | with_reducible refine Le.bnd ?_
    | with_reducible intro _
theorem wazm (rec231 rec232 : (Int) → (Int) → (Int) → ((HL [y1, y1] → Option (Int))) → ((List Nat) × Y2) → Option ((List Nat) × Y2)) (hr233 : ∀ (x234 : (Int)) (x235 : (Int)) (x236 : (Int)) (q237 q238 : ((HL [y1, y1] → Option (Int)))) (hq239 : ∀ h, Le (q237 h) (q238 h)) (x240 : ((List Nat) × Y2)), Le (rec231 x234 x235 x236 q237 x240) (rec232 x234 x235 x236 q238 x240)) (q241 q242 : (HL [y1, y1] → Option (Int))) (hq243 : ∀ h, Le (q241 h) (q242 h)) (x244 : Int × (Int × (Int × (Bool × (Bool × ((List Nat) × Y2)))))) : Le (wsy rec231 q241 x244) (wyf rec232 q242 x244) := by
  unfold wsy wyf
  refine Le.it (fun v => ?_) _ _
  apply wazl
  all_goals assumption
theorem wbzt (rec245 rec246 : (Int) → (Int) → (Int) → ((HL [y1, y1] → Option (Int))) → ((List Nat) × Y2) → Option ((List Nat) × Y2)) (hr247 : ∀ (x248 : (Int)) (x249 : (Int)) (x250 : (Int)) (q251 q252 : ((HL [y1, y1] → Option (Int)))) (hq253 : ∀ h, Le (q251 h) (q252 h)) (x254 : ((List Nat) × Y2)), Le (rec245 x248 x249 x250 q251 x254) (rec246 x248 x249 x250 q252 x254)) (x255 : Int) (x256 : Int) (x257 : Int) (q258 q259 : (HL [y1, y1] → Option (Int))) (hq260 : ∀ h, Le (q258 h) (q259 h)) (x261 : (List Nat) × Y2) : Le (waon rec245 x255 x256 x257 q258 x261).ev (wajh rec246 x255 x256 x257 q259 x261).ev := by
  unfold waon wajh
  try dsimp only
  repeat' first
    | with_reducible exact Le.refl _
    | with_reducible exact Le.f _
    | with_reducible refine Le.t ?_ ?_
    | with_reducible refine Le.g ?_
    | with_reducible refine Le.s (fun _ => ?_) (fun _ => ?_)
    | with_reducible refine Le.c ?_ (fun _ => ?_)
    | with_reducible assumption
    | with_reducible apply hr247
    | with_reducible apply hq260
    | with_reducible apply wazm
    | with_reducible refine Le.bnd ?_
    | with_reducible intro _
theorem wbck : ∀ (n : Nat) (x262 : (Int)) (x263 : (Int)) (x264 : (Int)) (q265 q266 : ((HL [y1, y1] → Option (Int)))) (hq267 : ∀ h, Le (q265 h) (q266 h)) (x268 : ((List Nat) × Y2)), Le (waay n x262 x263 x264 q265 x268) (wmu n x262 x263 x264 q266 x268)
  | 0 => by intros; exact Le.none _
  | n + 1 => by
    intros
    unfold waay wmu
    apply wbzt
    · exact wbck n
    all_goals assumption
theorem wbzu (q269 q270 : (HL [y1, y1] → Option (Int))) (hq271 : ∀ h, Le (q269 h) (q270 h)) (x272 : (List Nat) × Y2) : Le (waoo q269 x272).ev (wajk q270 x272).ev := by
  unfold waoo wajk
  try dsimp only
  repeat' first
    | with_reducible exact Le.refl _
    | with_reducible exact Le.f _
    | with_reducible refine Le.t ?_ ?_
    | with_reducible refine Le.g ?_
    | with_reducible refine Le.s (fun _ => ?_) (fun _ => ?_)
    | with_reducible refine Le.c ?_ (fun _ => ?_)
    | with_reducible assumption
    | with_reducible apply hq271
    | with_reducible apply wbci
    | with_reducible apply wbck
    | with_reducible refine Le.bnd ?_
    | with_reducible intro _
theorem wbzv (q273 q274 : (HL [y1, y1] → Option (Int))) (hq275 : ∀ h, Le (q273 h) (q274 h)) (x276 : (List Nat) × Y2) : Le (waop q273 x276) (wawc q274 x276) := by
  unfold waop wawc
  apply wbzu
  all_goals assumption
theorem wcog (x277 : Int) (x278 : Int) : Le (wbmd x277 x278).ev (T_za x277 x278).ev := by
  unfold wbmd T_za
  try dsimp only
  repeat' first
    | with_reducible exact Le.refl _
    | with_reducible exact Le.f _
    | with_reducible refine Le.t ?_ ?_
    | with_reducible refine Le.g ?_
    | with_reducible refine Le.s (fun _ => ?_) (fun _ => ?_)
    | with_reducible refine Le.c ?_ (fun _ => ?_)
    | with_reducible assumption
    | with_reducible apply wcob
    | with_reducible refine Le.bnd ?_
    | with_reducible intro _
theorem wbzw (x279 : Int) (x280 : Int) : Le (wayu x279 x280) (F_za x279 x280) := by
  unfold wayu F_za
  apply wcog
  all_goals assumption
theorem wazn (x281 : Y1 × (Y1 × (Y1 × Int))) (x282 : Int) : Le (wsz x281 x282).ev (wrh x281 x282).ev := by
  unfold wsz wrh
  try dsimp only
  repeat' first
    | with_reducible exact Le.refl _
    | with_reducible exact Le.f _
    | with_reducible refine Le.t ?_ ?_
    | with_reducible refine Le.g ?_
    | with_reducible refine Le.s (fun _ => ?_) (fun _ => ?_)
    | with_reducible refine Le.c ?_ (fun _ => ?_)
    | with_reducible assumption
    | with_reducible apply wbzw
    | with_reducible refine Le.bnd ?_
    | with_reducible intro _
theorem wazo (x283 : Y1 × (Y1 × (Y1 × Int))) (x284 : Int) : Le (wta x283 x284) (wyg x283 x284) := by
  unfold wta wyg
  refine Le.it (fun v => ?_) _ _
  apply wazn
  all_goals assumption
theorem wbzx (x285 : Y1) (x286 : Y1) : Le (waoq x285 x286).ev (wajl x285 x286).ev := by
  unfold waoq wajl
  try dsimp only
  repeat' first
    | with_reducible exact Le.refl _
    | with_reducible exact Le.f _
    | with_reducible refine Le.t ?_ ?_
    | with_reducible refine Le.g ?_
    | with_reducible refine Le.s (fun _ => ?_) (fun _ => ?_)
    | with_reducible refine Le.c ?_ (fun _ => ?_)
    | with_reducible assumption
    | with_reducible apply wazo
    | with_reducible refine Le.bnd ?_
    | with_reducible intro _
theorem wbzy (x287 : Y1) (x288 : Y1) : Le (waor x287 x288) (wawd x287 x288) := by
  unfold waor wawd
  apply wbzx
  all_goals assumption
theorem wbmk (x289 : Int × (Y1 × Int)) (x290 : Int) : Le (wzc x289 x290).ev (waap x289 x290).ev := by
  unfold wzc waap
  try dsimp only
  repeat' first
    | with_reducible exact Le.refl _
    | with_reducible exact Le.f _
    | with_reducible refine Le.t ?_ ?_
    | with_reducible refine Le.g ?_
    | with_reducible refine Le.s (fun _ => ?_) (fun _ => ?_)
    | with_reducible refine Le.c ?_ (fun _ => ?_)
    | with_reducible assumption
    | with_reducible refine Le.bnd ?_
    | with_reducible intro _
theorem wbml (x291 : Int × (Y1 × Int)) (x292 : Int) : Le (wzd x291 x292) (wajn x291 x292) := by
  unfold wzd wajn
  refine Le.it (fun v => ?_) _ _
  apply wbmk
  all_goals assumption
theorem wcoh (x293 : Y1) : Le (wbme x293).ev (T_zc x293).ev := by
  unfold wbme T_zc
  try dsimp only
  repeat' first
    | with_reducible exact Le.refl _
    | with_reducible exact Le.f _
    | with_reducible refine Le.t ?_ ?_
    | with_reducible refine Le.g ?_
    | with_reducible refine Le.s (fun _ => ?_) (fun _ => ?_)
    | with_reducible refine Le.c ?_ (fun _ => ?_)
    | with_reducible assumption
    | with_reducible apply wbml
    | with_reducible refine Le.bnd ?_
    | with_reducible intro _
theorem wcoi (x294 : Y1) : Le (wbmf x294) (F_zc x294) := by
  unfold wbmf F_zc
  apply wcoh
  all_goals assumption
theorem wcoj (x295 : Y1) (x296 : Y1) : Le (wbmg x295 x296).ev (T_zx x295 x296).ev := by
  unfold wbmg T_zx
  try dsimp only
  repeat' first
    | with_reducible exact Le.refl _
    | with_reducible exact Le.f _
    | with_reducible refine Le.t ?_ ?_
    | with_reducible refine Le.g ?_
    | with_reducible refine Le.s (fun _ => ?_) (fun _ => ?_)
    | with_reducible refine Le.c ?_ (fun _ => ?_)
    | with_reducible assumption
    | with_reducible apply wbzw
    | with_reducible apply wbzy
    | with_reducible apply wcoi
    | with_reducible refine Le.bnd ?_
    | with_reducible intro _
theorem wcok (x297 : Y1) (x298 : Y1) : Le (wbmh x297 x298) (F_zx x297 x298) := by
  unfold wbmh F_zx
  apply wcoj
  all_goals assumption
theorem wazp (x299 : Int) (x300 : Int × Y2) : Le (wtb x299 x300).ev (wrj x299 x300).ev := by
  unfold wtb wrj
  try dsimp only
  repeat' first
    | with_reducible exact Le.refl _
    | with_reducible exact Le.f _
    | with_reducible refine Le.t ?_ ?_
    | with_reducible refine Le.g ?_
    | with_reducible refine Le.s (fun _ => ?_) (fun _ => ?_)
    | with_reducible refine Le.c ?_ (fun _ => ?_)
    | with_reducible assumption
    | with_reducible apply wcof
    | with_reducible refine Le.bnd ?_
    | with_reducible intro _
theorem wazq (x301 : Int) (x302 : Int × Y2) : Le (wtc x301 x302) (wyi x301 x302) := by
  unfold wtc wyi
  refine Le.it (fun v => ?_) _ _
  apply wazp
  all_goals assumption
theorem wbzz (x303 : Int) : Le (waos x303).ev (wajo x303).ev := by
  unfold waos wajo
  try dsimp only
  repeat' first
    | with_reducible exact Le.refl _
    | with_reducible exact Le.f _
    | with_reducible refine Le.t ?_ ?_
    | with_reducible refine Le.g ?_
    | with_reducible refine Le.s (fun _ => ?_) (fun _ => ?_)
    | with_reducible refine Le.c ?_ (fun _ => ?_)
    | with_reducible assumption
    | with_reducible apply wazq
    | with_reducible apply wbzv
    | with_reducible apply wcok
    | with_reducible refine Le.bnd ?_
    | with_reducible intro _
theorem wcaa (x304 : Int) : Le (waot x304) (wajp x304) := by
  unfold waot wajp
  apply wbzz
  all_goals assumption
theorem wazr (x305 : Int × Int) (x306 : Int × Y1) : Le (wtd x305 x306).ev (wrp x305 x306).ev := by
  unfold wtd wrp
  try dsimp only
  repeat' first
    | with_reducible exact Le.refl _
    | with_reducible exact Le.f _
    | with_reducible refine Le.t ?_ ?_
    | with_reducible refine Le.g ?_
    | with_reducible refine Le.s (fun _ => ?_) (fun _ => ?_)
    | with_reducible refine Le.c ?_ (fun _ => ?_)
    | with_reducible assumption
    | with_reducible refine Le.bnd ?_
    | with_reducible intro _
theorem wazs (x307 : Int × Int) (x308 : Int × Y1) : Le (wte x307 x308) (wyo x307 x308) := by
  unfold wte wyo
  refine Le.it (fun v => ?_) _ _
  apply wazr
  all_goals assumption
theorem wcab (x309 : Int) (x310 : Int) : Le (waou x309 x310).ev (wajz x309 x310).ev := by
  unfold waou wajz
  try dsimp only
  repeat' first
    | with_reducible exact Le.refl _
    | with_reducible exact Le.f _
    | with_reducible refine Le.t ?_ ?_
    | with_reducible refine Le.g ?_
    | with_reducible refine Le.s (fun _ => ?_) (fun _ => ?_)
    | with_reducible refine Le.c ?_ (fun _ => ?_)
    | with_reducible assumption
    | with_reducible apply wazs
    | with_reducible refine Le.bnd ?_
    | with_reducible intro _
theorem wcac (x311 : Int) (x312 : Int) : Le (waov x311 x312) (waxe x311 x312) := by
  unfold waov waxe
  apply wcab
  all_goals assumption
theorem wazt (x313 : Y1 × Y1) (x314 : Int) : Le (wtf x313 x314).ev (wrr x313 x314).ev := by
  unfold wtf wrr
  try dsimp only
  repeat' first
    | with_reducible exact Le.refl _
    | with_reducible exact Le.f _
    | with_reducible refine Le.t ?_ ?_
    | with_reducible refine Le.g ?_
    | with_reducible refine Le.s (fun _ => ?_) (fun _ => ?_)
    | with_reducible refine Le.c ?_ (fun _ => ?_)
    | with_reducible assumption
    | with_reducible refine Le.bnd ?_
    | with_reducible intro _
theorem wazu (x315 : Y1 × Y1) (x316 : Int) : Le (wtg x315 x316) (wyp x315 x316) := by
  unfold wtg wyp
  refine Le.it (fun v => ?_) _ _
  apply wazt
  all_goals assumption
theorem wcad (x317 : Y1) (x318 : Y1) : Le (waow x317 x318).ev (wakb x317 x318).ev := by
  unfold waow wakb
  try dsimp only
  repeat' first
    | with_reducible exact Le.refl _
    | with_reducible exact Le.f _
    | with_reducible refine Le.t ?_ ?_
    | with_reducible refine Le.g ?_
    | with_reducible refine Le.s (fun _ => ?_) (fun _ => ?_)
    | with_reducible refine Le.c ?_ (fun _ => ?_)
    | with_reducible assumption
    | with_reducible apply wazu
    | with_reducible refine Le.bnd ?_
    | with_reducible intro _
theorem wcae (x319 : Y1) (x320 : Y1) : Le (waox x319 x320) (waxi x319 x320) := by
  unfold waox waxi
  apply wcad
  all_goals assumption
theorem wazv (x321 : Int × (Y2 × (Int × Y1))) (x322 : Int) : Le (wth x321 x322).ev (wrt x321 x322).ev := by
  unfold wth wrt
  try dsimp only
  repeat' first
    | with_reducible exact Le.refl _
    | with_reducible exact Le.f _
    | with_reducible refine Le.t ?_ ?_
    | with_reducible refine Le.g ?_
    | with_reducible refine Le.s (fun _ => ?_) (fun _ => ?_)
    | with_reducible refine Le.c ?_ (fun _ => ?_)
    | with_reducible assumption
    | with_reducible apply wcae
    | with_reducible refine Le.bnd ?_
    | with_reducible intro _
theorem wazw (x323 : Int × (Y2 × (Int × Y1))) (x324 : Int) : Le (wti x323 x324) (wyq x323 x324) := by
  unfold wti wyq
  refine Le.it (fun v => ?_) _ _
  apply wazv
  all_goals assumption
theorem wazx (x325 : Int) (x326 : Y2 × Int) : Le (wtj x325 x326).ev (wrv x325 x326).ev := by
  unfold wtj wrv
  try dsimp only
  repeat' first
    | with_reducible exact Le.refl _
    | with_reducible exact Le.f _
    | with_reducible refine Le.t ?_ ?_
    | with_reducible refine Le.g ?_
    | with_reducible refine Le.s (fun _ => ?_) (fun _ => ?_)
    | with_reducible refine Le.c ?_ (fun _ => ?_)
    | with_reducible assumption
    | with_reducible apply wcac
    | with_reducible apply wazw
    | with_reducible refine Le.bnd ?_
    | with_reducible intro _
theorem wazy (x327 : Int) (x328 : Y2 × Int) : Le (wtk x327 x328) (wyr x327 x328) := by
  unfold wtk wyr
  refine Le.it (fun v => ?_) _ _
  apply wazx
  all_goals assumption
theorem wcaf (x329 : Int) : Le (waoy x329).ev (wakd x329).ev := by
  unfold waoy wakd
  try dsimp only
  repeat' first
    | with_reducible exact Le.refl _
    | with_reducible exact Le.f _
    | with_reducible refine Le.t ?_ ?_
    | with_reducible refine Le.g ?_
    | with_reducible refine Le.s (fun _ => ?_) (fun _ => ?_)
    | with_reducible refine Le.c ?_ (fun _ => ?_)
    | with_reducible assumption
    | with_reducible apply wazy
    | with_reducible refine Le.bnd ?_
    | with_reducible intro _
theorem wcag (x330 : Int) : Le (waoz x330) (wakf x330) := by
  unfold waoz wakf
  apply wcaf
  all_goals assumption
end Go.Proofs.YtbofjefpngpegaaGreat
